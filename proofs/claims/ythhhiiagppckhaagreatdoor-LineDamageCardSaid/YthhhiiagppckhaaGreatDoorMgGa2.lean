/- The walks of grain's eye: ints, texts; conditions: none beyond their hypotheses. -/
import Derived.Test.YthhhiiagppckhaaGreatDoorMgGr1
import Derived.Deep.RegionLaw
set_option linter.unusedSimpArgs false
set_option linter.unusedVariables false
section
namespace Go.Proofs.YthhhiiagppckhaaGreatDoor
open Go.RowKit Go.Proofs.U
set_option linter.unusedVariables false

def IntRet (w : World) (T : TypeId) (g B0 : Nat) (r : Nat × List UInt8 × Nat) (e : Ending) (w' : World) : Prop :=
  e = .returned (.int .i64 (r.1 : Int)) ∧ EyeW w' T g B0 r.2.1 r.2.2 ∧ w.grownBy w' (some g)
def TextRet (w : World) (T : TypeId) (g B0 : Nat) (r : List UInt8 × List UInt8 × Nat) (e : Ending) (w' : World) : Prop :=
  ∃ A c, e = .returned (.slice A r.1.length c) ∧ Own w' w.heap.size 5 A r.1.length c r.1 ∧ EyeW w' T g B0 r.2.1 r.2.2 ∧ w.grownBy w' (some g)
set_option maxHeartbeats 1000000 in
theorem eint_any (g B0 : Nat) (b : List UInt8) (f most : Nat) (hmost : most < 4611686018427387904) (hm : b.length ≤ 4611686018427387904) (w : World) (h : EyeW w 117 g B0 b f) :
    Calls Tryz.prog 60 #[.pointer (some ⟨g, 0, none⟩), .int .i64 (most : Int)] w (IntRet w 117 g B0 (Gr.enum most b f)) := by
  have hle := Gr.enum_le most b f
  have hc := enum_any g B0 b f most (by omega) hm w h
  obtain ⟨R, hR⟩ : ∃ R, R = Gr.enum most b f := ⟨_, rfl⟩
  rw [← hR] at hle hc ⊢
  obtain ⟨r1, r2⟩ := R
  simp only at hle
  clear hR
  go_enter Tryz.func60, Tryz.ntmps60
  go_wp2_with fail
  refine hc.mono ?_
  rintro e w1 ⟨rfl, he, hg⟩
  simp only
  go_wp2_with fail
  go_ret
  exact ⟨rfl, he, hg⟩
set_option maxHeartbeats 1000000 in
theorem etext_any (g B0 : Nat) (b : List UInt8) (f most : Nat) (hmost : most < 4611686018427387904) (hm : b.length ≤ 140737488355328) (w : World) (h : EyeW w 117 g B0 b f) :
    Calls Tryz.prog 62 #[.pointer (some ⟨g, 0, none⟩), .int .i64 (most : Int)] w (TextRet w 117 g B0 (Gr.etext most b f)) := by
  have hB : B0 ≤ g := by obtain ⟨_, _, _, _, _, _, h⟩ := h; exact h
  have hglt := h.lt
  obtain ⟨X, hX⟩ : ∃ X, X = Gr.etext most b f := ⟨_, rfl⟩
  rw [← hX]
  have hc := eint_any g B0 b f most hmost (by omega) w h
  have hle := Gr.enum_len most b f
  obtain ⟨R, hR⟩ : ∃ R, R = Gr.enum most b f := ⟨_, rfl⟩
  rw [← hR] at hc hle
  obtain ⟨n, b1, f1⟩ := R
  have HX := Lib.hid (And.intro hX hR.symm)
  simp only at hle
  clear hX hR
  go_enter Tryz.func62, Tryz.ntmps62
  go_wp2_with fail
  refine hc.mono ?_
  rintro e w1 ⟨rfl, he, hg⟩
  simp only at he ⊢
  have k1 := he.c1
  by_cases hf : f1 = 0
  · subst hf
    by_cases hs : b1.length < n
    · go_wp2_with fail
      refine (etake_no g B0 b1 0 n hs w1 he).mono ?_
      rintro e w2 ⟨A2, c2, rfl, _, hb2, he2, hg2⟩
      go_wp2_with fail
      have hB2 : B0 ≤ w2.heap.size := by have := he2.lt; omega
      refine (clone_any A2 0 c2 [] w2 B0 hb2 hB2 (by omega)).mono ?_
      rintro e w3 ⟨A3, c3, rfl, hown3, hb3⟩
      go_wp2_with fail
      go_ret
      have hE := HX.out.1.trans (Gr.etext_short HX.out.2 rfl hs); subst hE
      have hgr := only_trans hg hg2
      exact ⟨A3, c3, rfl, hown3.mono hgr.size, he2.below hb3, only_below hgr hb3⟩
    · go_wp2_with fail
      refine (etake_yes g B0 b1 0 n (by omega) (by omega) w1 he).mono ?_
      rintro e w2 ⟨A2, c2, rfl, _, hb2, he2, hg2⟩
      go_wp2_with fail
      have hB2 : B0 ≤ w2.heap.size := by have := he2.lt; omega
      refine (clone_any A2 n c2 (b1.take n) w2 B0 hb2 hB2 (by omega)).mono ?_
      rintro e w3 ⟨A3, c3, rfl, hown3, hb3⟩
      go_wp2_with fail
      go_ret
      have hE := HX.out.1.trans (Gr.etext_ok HX.out.2 rfl (by simp only; omega)); subst hE
      have hgr := only_trans hg hg2
      have hl := hown3.len
      refine ⟨A3, c3, ?_, ?_, he2.below hb3, only_below hgr hb3⟩
      · simp only; rw [hl]; rfl
      · simp only; rw [hl]; exact hown3.mono hgr.size
  · have hff : ((f1 : Int) == 0) = false := by rw [beq_eq_false_iff_ne]; omega
    have hff2 : ((f1 : Int) != 0) = true := by rw [bne_iff_ne]; omega
    go_wp2_with fail
    go_ret
    have hE := HX.out.1.trans (Gr.etext_bad HX.out.2 hf); subst hE
    exact ⟨none, 0, rfl, Own.nil _ _ _, he, hg⟩
end Go.Proofs.YthhhiiagppckhaaGreatDoor
end
