/- The walks of grain's eye: ints, texts; conditions: none beyond their hypotheses. -/
import Derived.Test.YtmnanbcinfdbaaaGr1
import Derived.Deep.RegionLaw
namespace Go.Proofs.Ytmnanbcinfdbaaa
open Go.RowKit Go.Proofs.U
set_option linter.unusedVariables false

def IntRet (w : World) (T : TypeId) (g B0 : Nat) (r : Nat × List UInt8 × Nat) (e : Ending) (w' : World) : Prop :=
  e = .returned (.int .i64 (r.1 : Int)) ∧ EyeW w' T g B0 r.2.1 r.2.2 ∧ w.grownBy w' (some g)
def TextRet (w : World) (T : TypeId) (g B0 : Nat) (r : List UInt8 × List UInt8 × Nat) (e : Ending) (w' : World) : Prop :=
  ∃ A c, e = .returned (.slice A r.1.length c) ∧ Own w' w.heap.size 5 A r.1.length c r.1 ∧ EyeW w' T g B0 r.2.1 r.2.2 ∧ w.grownBy w' (some g)
set_option maxHeartbeats 1000000 in
theorem eint_any (g B0 : Nat) (b : List UInt8) (f most : Nat) (hmost : most < 4611686018427387904) (hm : b.length ≤ 4611686018427387904) (w : World) (h : EyeW w 85 g B0 b f) :
    Calls Try.prog 34 #[.pointer (some ⟨g, 0, none⟩), .int .i64 (most : Int)] w (IntRet w 85 g B0 (Gr.enum most b f)) := by
  have hle := Gr.enum_le most b f
  have hc := enum_any g B0 b f most (by omega) hm w h
  obtain ⟨R, hR⟩ : ∃ R, R = Gr.enum most b f := ⟨_, rfl⟩
  rw [← hR] at hle hc ⊢
  obtain ⟨r1, r2⟩ := R
  simp only at hle
  clear hR
  go_enter Try.func34, Try.ntmps34
  go_wp2_with fail
  refine hc.mono ?_
  rintro e w1 ⟨rfl, he, hg⟩
  simp only
  go_wp2_with fail
  go_ret
  exact ⟨rfl, he, hg⟩
set_option maxHeartbeats 1000000 in
theorem etext_any (g B0 : Nat) (b : List UInt8) (f most : Nat) (hmost : most < 4611686018427387904) (hm : b.length ≤ 140737488355328) (w : World) (h : EyeW w 85 g B0 b f) :
    Calls Try.prog 35 #[.pointer (some ⟨g, 0, none⟩), .int .i64 (most : Int)] w (TextRet w 85 g B0 (Gr.etext most b f)) := by
  have hB : B0 ≤ g := by obtain ⟨_, _, _, _, _, _, h⟩ := h; exact h
  have hglt := h.lt
  obtain ⟨X, hX⟩ : ∃ X, X = Gr.etext most b f := ⟨_, rfl⟩
  rw [← hX]
  have hc := eint_any g B0 b f most hmost (by omega) w h
  have hle := Gr.enum_len most b f
  obtain ⟨R, hR⟩ : ∃ R, R = Gr.enum most b f := ⟨_, rfl⟩
  rw [← hR] at hc hle
  obtain ⟨n, b1, f1⟩ := R
  have HX := Lib.hid (And.intro hX hR.symm)
  simp only at hle
  clear hX hR
  go_enter Try.func35, Try.ntmps35
  go_wp2_with fail
  refine hc.mono ?_
  rintro e w1 ⟨rfl, he, hg⟩
  simp only at he ⊢
  have k1 := he.c1
  by_cases hf : f1 = 0
  · subst hf
    by_cases hs : b1.length < n
    · go_wp2_with fail
      refine (etake_no g B0 b1 0 n hs w1 he).mono ?_
      rintro e w2 ⟨A2, c2, rfl, _, hb2, he2, hg2⟩
      go_wp2_with fail
      have hB2 : B0 ≤ w2.heap.size := by have := he2.lt; omega
      refine (clone_any A2 0 c2 [] w2 B0 hb2 hB2 (by omega)).mono ?_
      rintro e w3 ⟨A3, c3, rfl, hown3, hb3⟩
      go_wp2_with fail
      go_ret
      have hE := HX.out.1.trans (Gr.etext_short HX.out.2 rfl hs); subst hE
      have hgr := only_trans hg hg2
      exact ⟨A3, c3, rfl, hown3.mono hgr.size, he2.below hb3, only_below hgr hb3⟩
    · go_wp2_with fail
      refine (etake_yes g B0 b1 0 n (by omega) (by omega) w1 he).mono ?_
      rintro e w2 ⟨A2, c2, rfl, _, hb2, he2, hg2⟩
      go_wp2_with fail
      have hB2 : B0 ≤ w2.heap.size := by have := he2.lt; omega
      refine (clone_any A2 n c2 (b1.take n) w2 B0 hb2 hB2 (by omega)).mono ?_
      rintro e w3 ⟨A3, c3, rfl, hown3, hb3⟩
      go_wp2_with fail
      go_ret
      have hE := HX.out.1.trans (Gr.etext_ok HX.out.2 rfl (by simp only; omega)); subst hE
      have hgr := only_trans hg hg2
      have hl := hown3.len
      refine ⟨A3, c3, ?_, ?_, he2.below hb3, only_below hgr hb3⟩
      · simp only; rw [hl]; rfl
      · simp only; rw [hl]; exact hown3.mono hgr.size
  · have hff : ((f1 : Int) == 0) = false := by rw [beq_eq_false_iff_ne]; omega
    have hff2 : ((f1 : Int) != 0) = true := by rw [bne_iff_ne]; omega
    go_wp2_with fail
    go_ret
    have hE := HX.out.1.trans (Gr.etext_bad HX.out.2 hf); subst hE
    exact ⟨none, 0, rfl, Own.nil _ _ _, he, hg⟩
set_option maxHeartbeats 1000000 in
theorem some_zero (g B0 : Nat) (b : List UInt8) (f : Nat) (w : World) (h : EyeW w 85 g B0 b f) :
    Calls Try.prog 33 #[.pointer (some ⟨g, 0, none⟩), .int .i64 0] w (IntRet w 85 g B0 (0, Gr.efail 2 b f)) := by
  go_enter Try.func33, Try.ntmps33
  go_wp2_with fail
  refine (efail_any g B0 b f 2 (by omega) w h).mono ?_
  rintro e w1 ⟨rfl, he, hg⟩
  go_wp2_with fail
  go_ret
  exact ⟨rfl, he, hg⟩
set_option maxHeartbeats 1000000 in
theorem some_pos (g B0 : Nat) (b : List UInt8) (f n : Nat) (hn : n ≠ 0) (w : World) (h : EyeW w 85 g B0 b f) :
    Calls Try.prog 33 #[.pointer (some ⟨g, 0, none⟩), .int .i64 (n : Int)] w (IntRet w 85 g B0 (n, b, f)) := by
  have hq : ((n : Int) == 0) = false := by rw [beq_eq_false_iff_ne]; omega
  go_enter Try.func33, Try.ntmps33
  go_wp2_with fail
  go_ret
  exact ⟨rfl, h, World.grownBy.refl _ _⟩
theorem some_any (g B0 : Nat) (b : List UInt8) (f n : Nat) (w : World) (h : EyeW w 85 g B0 b f) :
    Calls Try.prog 33 #[.pointer (some ⟨g, 0, none⟩), .int .i64 (n : Int)] w (IntRet w 85 g B0 (if n = 0 then (0, Gr.efail 2 b f) else (n, b, f))) := by
  by_cases hn : n = 0
  · subst hn; exact some_zero g B0 b f w h
  · rw [if_neg hn]; exact some_pos g B0 b f n hn w h
set_option maxRecDepth 100000 in
set_option maxHeartbeats 2000000 in
theorem number_any (g B0 bx : Nat) (b : List UInt8) (f most : Nat) (hmost : most < 4611686018427387904) (hm : b.length ≤ 4611686018427387904) (w : World) (h : EyeW w 85 g B0 b f) (hbx : w.cell? ⟨bx, 0, none⟩ = some (.pointer (some ⟨g, 0, none⟩))) (hne : bx ≠ g) :
    Calls Try.prog 32 #[.int .i64 (most : Int), .pointer (some ⟨bx, 0, none⟩)] w (IntRet w 85 g B0 (Gr.numP most b f)) := by
  have hbl := World.block_lt_of_cell? w _ hbx
  have hc := fun w' (h' : EyeW w' 85 g B0 b f) => eint_any g B0 b f most hmost hm w' h'
  obtain ⟨X, hX⟩ : ∃ X, X = Gr.numP most b f := ⟨_, rfl⟩
  rw [← hX]
  obtain ⟨R, hR⟩ : ∃ R, R = Gr.enum most b f := ⟨_, rfl⟩
  have hXR : X = if R.1 = 0 then (0, Gr.efail 2 R.2.1 R.2.2) else R := by rw [hX, hR]; rfl
  rw [← hR] at hc
  obtain ⟨n, b1, f1⟩ := R
  have hsm : ∀ w', EyeW w' 85 g B0 b1 f1 → Calls Try.prog 33 #[.pointer (some ⟨g, 0, none⟩), .int .i64 (n : Int)] w' (IntRet w' 85 g B0 X) := fun w' h' => by
    rw [hXR]; exact some_any g B0 b1 f1 n w' h'
  have HX := Lib.hid hsm
  have HC := Lib.hid hc
  clear hX hR hXR hc hsm
  obtain ⟨x1, x2⟩ := X
  go_enter Try.func32, Try.ntmps32
  go_wp2_with fail
  have hd : EyeW w.drew 85 g B0 b f := h
  go_region_law (first
    | (go_simp
       go_at_call 34; refine (HC.out _ hd).mono ?_; rintro e w2 ⟨rfl, he2, hg2⟩
       have hbx2 : w2.cell? ⟨bx, 0, none⟩ = some (.pointer (some ⟨g, 0, none⟩)) := hg2.cell hbx (by intro e; injection e with e; exact hne e)
       simp only at he2 ⊢
       go_simp)
    | (go_simp
       go_at_call 33; refine (HX.out _ he2).mono ?_; rintro e w3 ⟨rfl, he3, hg3⟩
       simp only at he3 ⊢
       go_simp))
  all_goals
    go_wp2_with fail
    go_ret
    refine ⟨rfl, he3, only_trans (only_trans (only_drew (World.grownBy.refl _ _)) hg2) hg3⟩
end Go.Proofs.Ytmnanbcinfdbaaa
