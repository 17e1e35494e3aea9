/- HuntSteps; conditions: none beyond its hypotheses. -/
import Derived.Test.YtmnanbcinfdbaaaDoorMgH18
set_option linter.unusedSimpArgs false
set_option linter.unusedVariables false
section
namespace Go.Proofs.YtmnanbcinfdbaaaDoor
open Go.RowKit Go.Proofs.U
set_option linter.unusedVariables false
theorem hunt_len {base data : List UInt8} {s : Nat} : ∀ {F a : Nat} {l : List Gr.Stp}, (huntS base data s F a l).length ≤ l.length + F
  | 0, a, l => Nat.le_refl _
  | F + 1, a, l => by
    unfold huntS
    split
    · split
      · refine Nat.le_trans hunt_len ?_
        rename_i i _
        have := copy_len l ((i * s : Nat) : Int) (s : Int)
        omega
      · refine Nat.le_trans hunt_len ?_
        have := tells_len ((data.drop a).take 1) l
        have : ((data.drop a).take 1).length ≤ 1 := by rw [List.length_take]; omega
        omega
    · omega
theorem Oks.few {s nb : Nat} {l : List Gr.Stp} (h : Oks s nb l) (hn : nb ≤ 4096) : Few l := fun x hx => by
  rcases h x hx with ⟨a, b, rfl, _, h2⟩ | ⟨d, rfl, h1, h2⟩
  · have hm : (a + b) * s ≤ nb / s * s := Nat.mul_le_mul_right s h2
    have hd : nb / s * s ≤ nb := Nat.div_mul_le_self _ s
    rw [Nat.add_mul] at hm
    simp only
    exact ⟨by omega, by omega, by simp⟩
  · simp only
    exact ⟨by omega, by omega, by omega⟩
set_option maxRecDepth 100000 in
set_option maxHeartbeats 8000000 in
theorem huntSteps_any (A : Option Addr) (n c : Nat) (base : List UInt8) (x : Int) (A' : Option Addr) (m c' : Nat) (data : List UInt8) (w : World) (hb : BS w w.heap.size A n base) (hm : n ≤ maxLen) (hc : n ≤ c)
    (hb' : BS w w.heap.size A' m data) (hm' : m ≤ maxLen) (hc' : m ≤ c') (hT : Tabs w) :
    Calls Tryd.prog 13 #[.slice A n c, .int .i64 x, .slice A' m c'] w (Yes w) := by
  by_cases hsm : n ≤ 4096 ∧ m ≤ 1500 ∧ 4 ≤ x ∧ x ≤ 64
  · obtain ⟨hn4, hm5, hx4, hx6⟩ := hsm
    obtain ⟨s, rfl⟩ : ∃ s : Nat, x = (s : Int) := ⟨x.toNat, by omega⟩
    have hs : 4 ≤ s := by omega
    have hs2 : s ≤ 64 := by omega
    have u1 : decide (4096 < (n : Int)) = false := by simp; omega
    have u2 : decide (1500 < (m : Int)) = false := by simp; omega
    have u3 : decide ((s : Int) < 4) = false := by simp; omega
    have u4 : decide (64 < (s : Int)) = false := by simp; omega
    have v1 : decide (4096 < n) = false := by simp; omega
    have v2 : decide (1500 < m) = false := by simp; omega
    have v3 : decide (s < 4) = false := by simp; omega
    have v4 : decide (64 < s) = false := by simp; omega
    have HBL := Lib.hid (And.intro hb.1 hb'.1)
    clear hx4 hx6
    go_enter Tryd.func13, Tryd.ntmps13
    go_wp2_with fail
    refine (of_any A n c s base w hb hc (by omega) hs hs2 hT).mono ?_
    rintro e w1 ⟨rfl, htab, hb1⟩
    have htt := Tt.of hb hc (by omega) hs hs2 htab hb1
    have hbG := hb1.size
    have hbb := hb.below hb1
    have hbd := hb'.below hb1
    have HB := Lib.hid hb1
    generalize w.heap.size + 1 = G at htt ⊢
    clear htab hb1 hb hb'
    go_wp2_with fail
    refine (hsteps_any G _ _ _ n c base s A' m c' data w1 htt (hT.stay HB.out) (hbd.more hbG) hc' (by omega)).mono ?_
    rintro e w2 ⟨⟨A2, n2, c2, rfl, hc2, hso2⟩, hb2⟩
    have hn2 : n2 ≤ 1000000000 := by have := hso2.len; have h9 := hunt_len (base := base) (data := data) (s := s) (F := m) (a := 0) (l := []); simp only [List.length_nil] at h9; omega
    have hbw2 := HB.out.trans (hb2.mono hbG)
    have hsp2 := hso2.sp
    clear hso2
    go_wp2_with fail
    refine (rsteps_any A n c base s A' m c' data w2 ((hbb.below (hb2.mono hbG)).more hbw2.size) hc (by omega) hs hs2 ((hbd.below (hb2.mono hbG)).more hbw2.size) hc' (by omega)).mono ?_
    rintro e w3 ⟨⟨A3, n3, c3, rfl, hc3, hso3⟩, hb3⟩
    have hbw3 := hbw2.trans (hb3.mono hbw2.size)
    have hbd3 := (hbd.below (hb2.mono hbG)).below (hb3.mono hbw2.size)
    have hsp3 := hso3.sp
    have hsp2' := hsp2.below hb3
    clear hso3 hsp2
    go_wp2_with fail
    refine (rsame_eq A2 A3 n2 n3 c2 c3 _ w3 hsp2' hsp3 hn2).mono ?_
    rintro e w4 ⟨rfl, hd4⟩
    have hb4 : Below w3.heap.size w3 w4 := hd4.below _
    have hbw4 := hbw3.trans (hb4.mono hbw3.size)
    have hbd4 := hbd3.below (hb4.mono hbw3.size)
    clear hsp2' hsp3 hd4
    go_wp2_with fail
    refine (hplain_any A' m c' data w4 (hbd4.more hbw4.size) hc' (by omega)).mono ?_
    rintro e w5 ⟨⟨A5, n5, c5, rfl, hc5, hso5⟩, hb5⟩
    have hbw5 := hbw4.trans (hb5.mono hbw4.size)
    have hbd5 := hbd4.below (hb5.mono hbw4.size)
    have hn5 : n5 ≤ 1000000000 := by have := hso5.len; have h9 := tells_len data []; have := HBL.out.2; simp only [List.length_nil] at h9; omega
    have hsp5 := hso5.sp
    clear hso5
    go_wp2_with fail
    refine (rplain_any A' m c' data w5 (hbd5.more hbw5.size) (by omega)).mono ?_
    rintro e w6 ⟨⟨A6, n6, c6, rfl, hc6, hso6⟩, hb6⟩
    have hbw6 := hbw5.trans (hb6.mono hbw5.size)
    have hbd6 := hbd5.below (hb6.mono hbw5.size)
    have hsp6 := hso6.sp
    have hsp5' := hsp5.below hb6
    clear hso6 hsp5
    go_wp2_with fail
    refine (rsame_eq A5 A6 n5 n6 c5 c6 _ w6 hsp5' hsp6 hn5).mono ?_
    rintro e w7 ⟨rfl, hd7⟩
    have hb7 : Below w6.heap.size w6 w7 := hd7.below _
    have hbw7 := hbw6.trans (hb7.mono hbw6.size)
    have hbd7 := hbd6.below (hb7.mono hbw6.size)
    clear hsp5' hsp6 hd7
    go_wp2_with fail
    refine (hstepsNil_any A' m c' data w7 (hbd7.more hbw7.size) hc' (by omega)).mono ?_
    rintro e w8 ⟨⟨A8, n8, c8, rfl, hc8, hso8⟩, hb8⟩
    have hbw8 := hbw7.trans (hb8.mono hbw7.size)
    have hbd8 := hbd7.below (hb8.mono hbw7.size)
    have hn8 : n8 ≤ 1000000000 := by have := hso8.len; have h9 := tells_len data []; have := HBL.out.2; simp only [List.length_nil] at h9; omega
    have hsp8 := hso8.sp
    clear hso8
    go_wp2_with fail
    refine (rplain_any A' m c' data w8 (hbd8.more hbw8.size) (by omega)).mono ?_
    rintro e w9 ⟨⟨A9, n9, c9, rfl, hc9, hso9⟩, hb9⟩
    have hbw9 := hbw8.trans (hb9.mono hbw8.size)
    have hsp9 := hso9.sp
    have hsp8' := hsp8.below hb9
    clear hso9 hsp8
    go_wp2_with fail
    refine (rsame_eq A8 A9 n8 n9 c8 c9 _ w9 hsp8' hsp9 hn8).mono ?_
    rintro e w10 ⟨rfl, hd10⟩
    have hb10 : Below w9.heap.size w9 w10 := hd10.below _
    have hbw10 := hbw9.trans (hb10.mono hbw9.size)
    clear hsp8' hsp9 hd10
    go_wp2_with fail
    refine (lives18 w10 (hT.stay hbw10)).mono ?_
    rintro e w11 ⟨rfl, hb11⟩
    go_wp2_with fail
    go_ret
    exact ⟨rfl, hbw10.trans (hb11.mono hbw10.size)⟩
  · have hl := lives18 w hT
    by_cases c1 : 4096 < n
    · have u1 : decide (4096 < (n : Int)) = true := by simp; omega
      have v1 : decide (4096 < n) = true := by simp; omega
      clear c1
      clear hsm
      go_enter Tryd.func13, Tryd.ntmps13
      go_wp2_with fail
      refine hl.mono ?_
      rintro e w1 ⟨rfl, hb1⟩
      go_wp2_with fail
      go_ret
      exact ⟨rfl, hb1⟩
    have u1 : decide (4096 < (n : Int)) = false := by simp; omega
    have v1 : decide (4096 < n) = false := by simp; omega
    by_cases c2 : 1500 < m
    · have u2 : decide (1500 < (m : Int)) = true := by simp; omega
      have v2 : decide (1500 < m) = true := by simp; omega
      clear c1 c2
      clear hsm
      go_enter Tryd.func13, Tryd.ntmps13
      go_wp2_with fail
      refine hl.mono ?_
      rintro e w1 ⟨rfl, hb1⟩
      go_wp2_with fail
      go_ret
      exact ⟨rfl, hb1⟩
    have u2 : decide (1500 < (m : Int)) = false := by simp; omega
    have v2 : decide (1500 < m) = false := by simp; omega
    by_cases c3 : x < 4
    · have u3 : decide (x < 4) = true := by simpa using c3
      clear c1 c2 c3
      clear hsm
      go_enter Tryd.func13, Tryd.ntmps13
      go_wp2_with fail
      refine hl.mono ?_
      rintro e w1 ⟨rfl, hb1⟩
      go_wp2_with fail
      go_ret
      exact ⟨rfl, hb1⟩
    · have u3 : decide (x < 4) = false := by simpa using c3
      have u4 : decide (64 < x) = true := by simp; omega
      clear c1 c2 c3
      clear hsm
      go_enter Tryd.func13, Tryd.ntmps13
      go_wp2_with fail
      refine hl.mono ?_
      rintro e w1 ⟨rfl, hb1⟩
      go_wp2_with fail
      go_ret
      exact ⟨rfl, hb1⟩
end Go.Proofs.YtmnanbcinfdbaaaDoor
end
