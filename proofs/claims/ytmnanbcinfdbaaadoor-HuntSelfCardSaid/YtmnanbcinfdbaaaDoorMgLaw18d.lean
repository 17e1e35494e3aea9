/- HuntSelf; conditions: none beyond its hypotheses. -/
import Derived.Test.YtmnanbcinfdbaaaDoorMgH18
import Derived.Test.YtmnanbcinfdbaaaDoorMgLaw18b
set_option linter.unusedSimpArgs false
set_option linter.unusedVariables false
section
namespace Go.Proofs.YtmnanbcinfdbaaaDoor
open Go.RowKit Go.Proofs.U
set_option linter.unusedVariables false
set_option maxRecDepth 100000 in
set_option maxHeartbeats 8000000 in
theorem huntSelf_any (A : Option Addr) (n c : Nat) (base : List UInt8) (x : Int) (A' : Option Addr) (m c' : Nat) (data : List UInt8) (w : World) (hb : BS w w.heap.size A n base) (hm : n ≤ maxLen) (hc : n ≤ c)
    (hb' : BS w w.heap.size A' m data) (hm' : m ≤ maxLen) (hc' : m ≤ c') (hT : Tabs w) :
    Calls Tryd.prog 11 #[.slice A n c, .int .i64 x, .slice A' m c'] w (Yes w) := by
  by_cases hsm : n ≤ 2000 ∧ m ≤ 500 ∧ 4 ≤ x ∧ x ≤ 64
  · obtain ⟨hn4, hm5, hx4, hx6⟩ := hsm
    obtain ⟨s, rfl⟩ : ∃ s : Nat, x = (s : Int) := ⟨x.toNat, by omega⟩
    have hs : 4 ≤ s := by omega
    have hs2 : s ≤ 64 := by omega
    have u1 : decide (2000 < (n : Int)) = false := by simp; omega
    have u2 : decide (500 < (m : Int)) = false := by simp; omega
    have u3 : decide ((s : Int) < 4) = false := by simp; omega
    have u4 : decide (64 < (s : Int)) = false := by simp; omega
    have v1 : decide (2000 < n) = false := by simp; omega
    have v2 : decide (500 < m) = false := by simp; omega
    have v3 : decide (s < 4) = false := by simp; omega
    have v4 : decide (64 < s) = false := by simp; omega
    have HBL := Lib.hid (And.intro hb.1 hb'.1)
    clear hx4 hx6
    have q1 : ((n : Int)).tdiv (s : Int) = ((n / s : Nat) : Int) := by simp [Int.tdiv_eq_ediv]
    obtain ⟨N, hN⟩ : ∃ N, N = n / s := ⟨_, rfl⟩
    rw [← hN] at q1
    have hN2 : N * s ≤ n := by rw [hN]; exact Nat.div_mul_le_self n s
    have hN3 : N ≤ n := by rw [hN]; exact Nat.div_le_self n s
    obtain ⟨Wh, hWh⟩ : ∃ Wh, Wh = N * s := ⟨_, rfl⟩
    rw [← hWh] at hN2
    have w3 : IntKind.i64.wrap (N : Int) = (N : Int) := wrap_nat_i64 (by omega)
    have w4 : IntKind.i64.wrap ((N : Int) * (s : Int)) = (Wh : Int) := by rw [show (N : Int) * (s : Int) = ((N * s : Nat) : Int) by simp, ← hWh]; exact wrap_nat_i64 (by omega)
    have w5 : IntKind.i64.wrap ((n : Int) - (Wh : Int)) = (n : Int) - (Wh : Int) := by rw [IntKind.wrap_i64]; omega
    have hself := hunt_self (base := base) (s := s) (by omega) n (by rw [hb.1]; exact Nat.le_refl _)
    rw [hb.1, ← hN, ← hWh] at hself
    have hmore := hunt_more (base := base) (more := data) (s := s) (by omega) (n + m) (by rw [List.length_append, hb.1, hb'.1]; exact Nat.le_refl _)
    rw [hb.1, ← hN, ← hWh] at hmore
    have HH := Lib.hid (And.intro hself hmore)
    clear hN hWh hself hmore
    go_enter Tryd.func11, Tryd.ntmps11
    go_wp2_with fail
    refine (of_any A n c s base w hb hc (by omega) hs hs2 hT).mono ?_
    rintro e w1 ⟨rfl, htab, hb1⟩
    have htt := Tt.of hb hc (by omega) hs hs2 htab hb1
    have hbG := hb1.size
    have hbb := hb.below hb1
    have hbd := hb'.below hb1
    have HB := Lib.hid hb1
    generalize w.heap.size + 1 = G at htt ⊢
    clear htab hb1 hb hb'
    go_wp2_with fail
    refine (hsteps_any G _ _ _ n c base s A n c base w1 htt (hT.stay HB.out) (hbb.more hbG) hc (by omega)).mono ?_
    rintro e w2 ⟨⟨A2, n2, c2, rfl, hc2, hso2⟩, hb2⟩
    have hn2 : n2 ≤ 5000 := by have := hso2.len; have h9 := hunt_len (base := base) (data := base) (s := s) (F := n) (a := 0) (l := []); simp only [List.length_nil] at h9; omega
    have hfew : Few (huntS base base s n 0 []) := (Oks.hunt (by omega) (Oks.nil _ _)).few (by rw [HBL.out.1]; omega)
    have hbw2 := HB.out.trans (hb2.mono hbG)
    have hsp2 := hso2.sp
    clear hso2
    go_wp2_with fail
    refine (hcount_any A2 n2 c2 _ w2 hsp2 hn2 hfew).mono ?_
    rintro e w3 ⟨rfl, hb3⟩
    have hbw3 := hbw2.trans (hb3.mono hbw2.size)
    rw [HH.out.1.1, HH.out.1.2]
    have hb23 := hb2.trans (hb3.mono hb2.size)
    have hbb3 := hbb.below (hb23.mono hbG)
    have hbd3 := hbd.below (hb23.mono hbG)
    have htt3 := htt.stay hb23
    have hal0 : Below w3.heap.size w3 (w3.alloc (.cells #[] 5)) := (Below.refl _ _).alloc (Nat.le_refl _) _
    have hlen5 : n ≤ 140737488355328 := by omega
    have hlen6 : n + m ≤ 140737488355328 := by omega
    have hbbA := hbb3.below (hal0.mono hbw3.size)
    have HA := Lib.hid (And.intro hal0.size (And.intro hal0 hbd3))
    clear hsp2 hfew hn2 hbb hbd htt hb2 hb3 hb23
    go_wp2_with (first
      | (at_builtin; refine wpList_cpB bt rfl (.tmp 54) (.tmp 55) rfl w3.heap.size (some ⟨w3.heap.size, 0, none⟩) 0 rfl (U.Own.made w3 _ _ (Nat.le_refl _)) _ A n c base rfl hbbA hlen5 HA.out.1 ?_; intro A5 c5 w5 hown5 hg5; have hb5 : Below w3.heap.size w3 w5 := below_of_grown HA.out.2.1 HA.out.1 (U.Own.made w3 _ _ (Nat.le_refl _)) (Nat.le_refl _) hg5; clear hg5; have hbd5 := HA.out.2.2.below (hb5.mono hbw3.size))
      | (at_builtin; refine wpList_app bt rfl (.tmp 56) (.tmp 57) rfl w3.heap.size A5 n c5 base rfl hown5 _ A' m c' data rfl hbd5 hlen6 hb5.size ?_; intro A7 c7 w7 hown7 hg7 _; have hb7 : Below w3.heap.size w3 w7 := below_of_grown hb5 hb5.size hown5 (Nat.le_refl _) hg7; clear hg7))
    have hbw7 := hbw3.trans (hb7.mono hbw3.size)
    refine (hsteps_any G _ _ _ n c base s A7 (n + m) c7 (base ++ data) w7 (htt3.stay hb7) (hT.stay hbw7) hown7.bs (U.Own.le hown7) (by omega)).mono ?_
    rintro e w8 ⟨⟨A8, n8, c8, rfl, hc8, hso8⟩, hb8⟩
    have hn8 : n8 ≤ 5000 := by have := hso8.len; have h9 := hunt_len (base := base) (data := base ++ data) (s := s) (F := n + m) (a := 0) (l := []); simp only [List.length_nil] at h9; omega
    have hfew8 : Few (huntS base (base ++ data) s (n + m) 0 []) := (Oks.hunt (by omega) (Oks.nil _ _)).few (by rw [HBL.out.1]; omega)
    have hbw8 := hbw7.trans (hb8.mono hbw7.size)
    have hsp8 := hso8.sp
    clear hso8 hown7 hown5
    go_wp2_with fail
    refine (hcount_any A8 n8 c8 _ w8 hsp8 hn8 hfew8).mono ?_
    rintro e w9 ⟨rfl, hb9⟩
    have hbw9 := hbw8.trans (hb9.mono hbw8.size)
    generalize hK : ccS (huntS base (base ++ data) s (n + m) 0 []) = K
    have hge : (Wh : Int) ≤ K := by rw [← hK]; exact HH.out.2
    have z1 : decide ((Wh : Int) ≤ K) = true := by simpa using hge
    have z2 : ((n - Wh : Nat) : Int) = (n : Int) - (Wh : Int) := by omega
    rw [z2]
    have HZ := Lib.hid hge
    clear hK hsp8 hfew8 hn8 hge z2
    go_wp2_with fail
    refine (lives18 w9 (hT.stay hbw9)).mono ?_
    rintro e w10 ⟨rfl, hb10⟩
    go_wp2_with fail
    go_ret
    exact ⟨rfl, hbw9.trans (hb10.mono hbw9.size)⟩
  · have hl := lives18 w hT
    by_cases c1 : 2000 < n
    · have u1 : decide (2000 < (n : Int)) = true := by simp; omega
      have v1 : decide (2000 < n) = true := by simp; omega
      clear c1
      clear hsm
      go_enter Tryd.func11, Tryd.ntmps11
      go_wp2_with fail
      refine hl.mono ?_
      rintro e w1 ⟨rfl, hb1⟩
      go_wp2_with fail
      go_ret
      exact ⟨rfl, hb1⟩
    have u1 : decide (2000 < (n : Int)) = false := by simp; omega
    have v1 : decide (2000 < n) = false := by simp; omega
    by_cases c2 : 500 < m
    · have u2 : decide (500 < (m : Int)) = true := by simp; omega
      have v2 : decide (500 < m) = true := by simp; omega
      clear c1 c2
      clear hsm
      go_enter Tryd.func11, Tryd.ntmps11
      go_wp2_with fail
      refine hl.mono ?_
      rintro e w1 ⟨rfl, hb1⟩
      go_wp2_with fail
      go_ret
      exact ⟨rfl, hb1⟩
    have u2 : decide (500 < (m : Int)) = false := by simp; omega
    have v2 : decide (500 < m) = false := by simp; omega
    by_cases c3 : x < 4
    · have u3 : decide (x < 4) = true := by simpa using c3
      clear c1 c2 c3
      clear hsm
      go_enter Tryd.func11, Tryd.ntmps11
      go_wp2_with fail
      refine hl.mono ?_
      rintro e w1 ⟨rfl, hb1⟩
      go_wp2_with fail
      go_ret
      exact ⟨rfl, hb1⟩
    · have u3 : decide (x < 4) = false := by simpa using c3
      have u4 : decide (64 < x) = true := by simp; omega
      clear c1 c2 c3
      clear hsm
      go_enter Tryd.func11, Tryd.ntmps11
      go_wp2_with fail
      refine hl.mono ?_
      rintro e w1 ⟨rfl, hb1⟩
      go_wp2_with fail
      go_ret
      exact ⟨rfl, hb1⟩
end Go.Proofs.YtmnanbcinfdbaaaDoor
end
