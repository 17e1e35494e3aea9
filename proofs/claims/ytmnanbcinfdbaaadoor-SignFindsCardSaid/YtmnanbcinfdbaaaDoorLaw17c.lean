/- SignFinds; conditions: none beyond its hypotheses. -/
import Derived.Test.YtmnanbcinfdbaaaDoorSg9
import Derived.Test.YtmnanbcinfdbaaaDoorSg7
import Derived.Test.YtmnanbcinfdbaaaDoorLaw17
namespace Go.Proofs.YtmnanbcinfdbaaaDoor
open Go.RowKit Go.Proofs.U
set_option linter.unusedVariables false
/-- what the first block is, in the law's words -/
theorem fst_cases (base : List UInt8) (s : Nat) (b : List UInt8) : (∃ i : Nat, fst17 base s b (base.length / s) = some i ∧ fstI base s b = (i : Int)) ∨ (fst17 base s b (base.length / s) = none ∧ fstI base s b = -1) := by
  unfold fstI
  cases fst17 base s b (base.length / s) with
  | some i => exact .inl ⟨i, rfl, rfl⟩
  | none => exact .inr ⟨rfl, rfl⟩
set_option maxRecDepth 100000 in
set_option maxHeartbeats 8000000 in
theorem signFinds_any (A : Option Addr) (n c : Nat) (base : List UInt8) (x : Int) (A' : Option Addr) (m c' : Nat) (b : List UInt8) (wk : Int) (w : World) (hb : BS w w.heap.size A n base) (hm : n ≤ maxLen) (hc : n ≤ c)
    (hb' : BS w w.heap.size A' m b) (hm' : m ≤ maxLen) (hc' : m ≤ c') (k0 : 0 ≤ wk) (k1 : wk < 4294967296) (hT : Tabs w) :
    Calls Tryd.prog 7 #[.slice A n c, .int .i64 x, .slice A' m c', .int .u32 wk] w (Yes w) := by
  by_cases hsm : n ≤ 4096 ∧ m ≤ 5000 ∧ 4 ≤ x ∧ x ≤ 64
  · obtain ⟨hn4, hm5, hx4, hx6⟩ := hsm
    obtain ⟨s, rfl⟩ : ∃ s : Nat, x = (s : Int) := ⟨x.toNat, by omega⟩
    have hs : 4 ≤ s := by omega
    have hs2 : s ≤ 64 := by omega
    have u1 : decide (4096 < (n : Int)) = false := by simp; omega
    have u2 : decide (5000 < (m : Int)) = false := by simp; omega
    have u3 : decide ((s : Int) < 4) = false := by simp; omega
    have u4 : decide (64 < (s : Int)) = false := by simp; omega
    have v1 : decide (4096 < n) = false := by simp; omega
    have v2 : decide (5000 < m) = false := by simp; omega
    have v3 : decide (s < 4) = false := by simp; omega
    have v4 : decide (64 < s) = false := by simp; omega
    clear hx4 hx6
    have hrf := rfirst_any A n c s base
    obtain ⟨F, hF⟩ : ∃ F, F = fstI base s b := ⟨_, rfl⟩
    obtain ⟨X, hX⟩ : ∃ X, X = rsum b := ⟨_, rfl⟩
    have hXb := rsum_bd b
    rw [← hX] at hXb
    have hfe := fnd_eq base s b (n / s)
    rw [← hX] at hfe
    have hfn := fun h : wk ≠ X => fnd_ne base s b wk (by rw [← hX]; exact h) (n / s)
    have hbl := hb.1
    have hfc := fst_cases base s b
    rw [hbl, ← hF] at hfc
    have HX := Lib.hid (And.intro hX (And.intro hF (And.intro hfe (And.intro hfn (And.intro hfc hbl)))))
    clear hX hfe hfn hfc hF hbl
    go_enter Tryd.func7, Tryd.ntmps7
    go_wp2_with fail
    refine (of_any A n c s base w hb hc hn4 hs hs2 hT).mono ?_
    rintro e w1 ⟨rfl, htab, hb1⟩
    have htt := Tt.of hb hc hn4 hs hs2 htab hb1
    have hbG := hb1.size
    have hbb := hb'.below hb1
    have HB := Lib.hid (And.intro hb1 (And.intro htt hbb))
    have hb1b := htt.bs
    generalize w.heap.size + 1 = G at htt ⊢
    clear htab hb1 hb
    go_wp2_with fail
    refine (hrf w1 hb1b hc (by omega) hs A' m c' b (hbb.more hbG)).mono ?_
    rintro e w2 ⟨rfl, hd2⟩
    have hb2 : Below w1.heap.size w1 w2 := hd2.below _
    rw [← HX.out.2.1]
    clear hd2 hrf
    go_wp2_with fail
    refine (rrsum_any A' m c' b w2 _ (hbb.below (hb2.mono hbG)) (by omega)).mono ?_
    rintro e w' ⟨rfl, rfl⟩
    rw [← HX.out.1]
    have hbb2 := (hbb.below (hb2.mono hbG)).more (Nat.le_trans hbG hb2.size)
    go_wp2_with fail
    refine (find_any _ _ _ _ n c base s w2 (htt.stay hb2) (hT.stay (HB.out.1.trans (hb2.mono hbG))) X hXb.1 hXb.2 A' m c' b hbb2 hc' (by omega)).mono ?_
    rintro e w3 ⟨rfl, hb3⟩
    rw [HX.out.2.2.1]
    have hb3' := hb2.trans (hb3.mono hb2.size)
    have hbb3 := (hbb.below (hb3'.mono hbG)).more (Nat.le_trans hbG hb3'.size)
    have k3 := fun (_ : Nat) => find_any _ _ _ _ n c base s w3 (htt.stay hb3') (hT.stay (HB.out.1.trans (hb3'.mono hbG))) wk k0 k1 A' m c' b hbb3 hc' (by omega)
    have K3 := Lib.hid k3
    have HF := Lib.hid HX.out.2.2.2.2.1
    clear hbb2 k3
    rcases HF.out with ⟨j, h1, rfl⟩ | ⟨h1, rfl⟩
    · rw [h1]
      simp only [Option.map_some, Option.getD_some, Option.isSome_some]
      have z1 : decide ((0 : Int) ≤ (j : Int)) = true := by simp
      by_cases hwX : wk = X
      · have hk4 := K3.out 0
        unfold FindR at hk4
        rw [hwX, HX.out.2.2.1, h1] at hk4
        simp only [Option.map_some, Option.getD_some, Option.isSome_some] at hk4
        have y1 : (wk != X) = false := by simpa using hwX
        have y2 : decide (wk = X) = true := by simpa using hwX
        have y3 : (wk == X) = true := by simpa using hwX
        have hwX' := Lib.hid hwX
        subst hwX
        clear y1 y2 y3
        go_wp2_with fail
        refine hk4.mono ?_
        rintro e w4 ⟨rfl, hb4⟩
        have hb4' := hb3'.trans (hb4.mono hb3'.size)
        have hbb4 := (hbb.below (hb4'.mono hbG)).more (Nat.le_trans hbG hb4'.size)
        have hb4z := hb4'.size
        clear hb4
        go_wp2_with fail
        refine (rrsum_any A' m c' b w4 _ (hbb.below (hb4'.mono hbG)) (by omega)).mono ?_
        rintro e w' ⟨rfl, rfl⟩
        rw [← HX.out.1]
        go_wp2_with fail
        refine (lives17 w4 (hT.stay (HB.out.1.trans (hb4'.mono hbG)))).mono ?_
        rintro e w5 ⟨rfl, hb5⟩
        go_wp2_with fail
        go_ret
        exact ⟨rfl, HB.out.1.trans ((hb4'.trans (hb5.mono hb4z)).mono hbG)⟩
      · have hk4 := K3.out 0
        unfold FindR at hk4
        rw [HX.out.2.2.2.1 hwX] at hk4
        simp only [Option.getD_none, Option.isSome_none] at hk4
        have y1 : (wk != X) = true := by simpa using hwX
        have y2 : decide (wk = X) = false := by simpa using hwX
        have y3 : (wk == X) = false := by simpa using hwX
        go_wp2_with fail
        refine hk4.mono ?_
        rintro e w4 ⟨rfl, hb4⟩
        have hb4' := hb3'.trans (hb4.mono hb3'.size)
        have hb4z := hb4'.size
        clear hb4
        go_wp2_with fail
        refine (rrsum_any A' m c' b w4 _ (hbb.below (hb4'.mono hbG)) (by omega)).mono ?_
        rintro e w' ⟨rfl, rfl⟩
        rw [← HX.out.1]
        go_wp2_with fail
        refine (lives17 w4 (hT.stay (HB.out.1.trans (hb4'.mono hbG)))).mono ?_
        rintro e w5 ⟨rfl, hb5⟩
        go_wp2_with fail
        go_ret
        exact ⟨rfl, HB.out.1.trans ((hb4'.trans (hb5.mono hb4z)).mono hbG)⟩
    · rw [h1]
      simp only [Option.map_none, Option.getD_none, Option.isSome_none]
      by_cases hwX : wk = X
      · have hk4 := K3.out 0
        unfold FindR at hk4
        rw [hwX, HX.out.2.2.1, h1] at hk4
        simp only [Option.map_none, Option.getD_none, Option.isSome_none] at hk4
        have y1 : (wk != X) = false := by simpa using hwX
        have y2 : decide (wk = X) = true := by simpa using hwX
        have y3 : (wk == X) = true := by simpa using hwX
        have hwX' := Lib.hid hwX
        subst hwX
        clear y1 y2 y3
        go_wp2_with fail
        refine hk4.mono ?_
        rintro e w4 ⟨rfl, hb4⟩
        have hb4' := hb3'.trans (hb4.mono hb3'.size)
        have hbb4 := (hbb.below (hb4'.mono hbG)).more (Nat.le_trans hbG hb4'.size)
        have hb4z := hb4'.size
        clear hb4
        go_wp2_with fail
        refine (rrsum_any A' m c' b w4 _ (hbb.below (hb4'.mono hbG)) (by omega)).mono ?_
        rintro e w' ⟨rfl, rfl⟩
        rw [← HX.out.1]
        go_wp2_with fail
        refine (lives17 w4 (hT.stay (HB.out.1.trans (hb4'.mono hbG)))).mono ?_
        rintro e w5 ⟨rfl, hb5⟩
        go_wp2_with fail
        go_ret
        exact ⟨rfl, HB.out.1.trans ((hb4'.trans (hb5.mono hb4z)).mono hbG)⟩
      · have hk4 := K3.out 0
        unfold FindR at hk4
        rw [HX.out.2.2.2.1 hwX] at hk4
        simp only [Option.getD_none, Option.isSome_none] at hk4
        have y1 : (wk != X) = true := by simpa using hwX
        have y2 : decide (wk = X) = false := by simpa using hwX
        have y3 : (wk == X) = false := by simpa using hwX
        go_wp2_with fail
        refine hk4.mono ?_
        rintro e w4 ⟨rfl, hb4⟩
        have hb4' := hb3'.trans (hb4.mono hb3'.size)
        have hb4z := hb4'.size
        clear hb4
        go_wp2_with fail
        refine (rrsum_any A' m c' b w4 _ (hbb.below (hb4'.mono hbG)) (by omega)).mono ?_
        rintro e w' ⟨rfl, rfl⟩
        rw [← HX.out.1]
        go_wp2_with fail
        refine (lives17 w4 (hT.stay (HB.out.1.trans (hb4'.mono hbG)))).mono ?_
        rintro e w5 ⟨rfl, hb5⟩
        go_wp2_with fail
        go_ret
        exact ⟨rfl, HB.out.1.trans ((hb4'.trans (hb5.mono hb4z)).mono hbG)⟩
  · have hl := lives17 w hT
    by_cases c1 : 4096 < n
    · have u1 : decide (4096 < (n : Int)) = true := by simp; omega
      have v1 : decide (4096 < n) = true := by simp; omega
      clear hsm c1
      go_enter Tryd.func7, Tryd.ntmps7
      go_wp2_with fail
      refine hl.mono ?_
      rintro e w1 ⟨rfl, hb1⟩
      go_wp2_with fail
      go_ret
      exact ⟨rfl, hb1⟩
    have u1 : decide (4096 < (n : Int)) = false := by simp; omega
    have v1 : decide (4096 < n) = false := by simp; omega
    by_cases c2 : 5000 < m
    · have u2 : decide (5000 < (m : Int)) = true := by simp; omega
      have v2 : decide (5000 < m) = true := by simp; omega
      clear hsm c1 c2
      go_enter Tryd.func7, Tryd.ntmps7
      go_wp2_with fail
      refine hl.mono ?_
      rintro e w1 ⟨rfl, hb1⟩
      go_wp2_with fail
      go_ret
      exact ⟨rfl, hb1⟩
    have u2 : decide (5000 < (m : Int)) = false := by simp; omega
    have v2 : decide (5000 < m) = false := by simp; omega
    by_cases c3 : x < 4
    · have u3 : decide (x < 4) = true := by simpa using c3
      clear hsm c1 c2 c3
      go_enter Tryd.func7, Tryd.ntmps7
      go_wp2_with fail
      refine hl.mono ?_
      rintro e w1 ⟨rfl, hb1⟩
      go_wp2_with fail
      go_ret
      exact ⟨rfl, hb1⟩
    · have u3 : decide (x < 4) = false := by simpa using c3
      have u4 : decide (64 < x) = true := by simp; omega
      clear hsm c1 c2 c3
      go_enter Tryd.func7, Tryd.ntmps7
      go_wp2_with fail
      refine hl.mono ?_
      rintro e w1 ⟨rfl, hb1⟩
      go_wp2_with fail
      go_ret
      exact ⟨rfl, hb1⟩
end Go.Proofs.YtmnanbcinfdbaaaDoor
