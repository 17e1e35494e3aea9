/- Errors: classes, the example; conditions: none beyond their hypotheses. -/
import Derived.Test.YthhhiiagppckhaaDoorBe11
namespace Go.Proofs.YthhhiiagppckhaaDoor
open Go.RowKit Go.Proofs.U Go.Proofs.Bp
set_option linter.unusedVariables false

def classOf (c : Int) : Int :=
  if c = 0 then 0 else if c = 1 ∨ c = 2 ∨ c = 23 then 1 else if c = 10 ∨ c = 11 ∨ c = 12 ∨ c = 13 ∨ c = 14 ∨ c = 15 ∨ c = 16 then 2
  else if c = 20 ∨ c = 21 ∨ c = 22 then 3 else if c = 24 ∨ c = 25 then 4 else if c = 30 ∨ c = 31 then 5 else 6
def ClassRet (w : World) (c : Int) (e : Ending) (w' : World) : Prop := e = .returned (.int .i64 (classOf c)) ∧ w = w'
theorem ne_all {c : Int} (h : ¬ (c = 0 ∨ c = 1 ∨ c = 2 ∨ c = 23 ∨ c = 10 ∨ c = 11 ∨ c = 12 ∨ c = 13 ∨ c = 14 ∨ c = 15 ∨ c = 16 ∨ c = 20 ∨ c = 21 ∨ c = 22 ∨ c = 24 ∨ c = 25 ∨ c = 30 ∨ c = 31)) (k : Int)
    (hk : k = 0 ∨ k = 1 ∨ k = 2 ∨ k = 23 ∨ k = 10 ∨ k = 11 ∨ k = 12 ∨ k = 13 ∨ k = 14 ∨ k = 15 ∨ k = 16 ∨ k = 20 ∨ k = 21 ∨ k = 22 ∨ k = 24 ∨ k = 25 ∨ k = 30 ∨ k = 31) : (c == k) = false := by
  rw [beq_eq_false_iff_ne]; intro e; subst e; exact h hk
set_option maxRecDepth 100000 in
set_option maxHeartbeats 8000000 in
theorem class_any (c : Int) (w : World) : Calls Tryd.prog 19 #[.int .i64 c] w (ClassRet w c) := by
  by_cases h : c = 0 ∨ c = 1 ∨ c = 2 ∨ c = 23 ∨ c = 10 ∨ c = 11 ∨ c = 12 ∨ c = 13 ∨ c = 14 ∨ c = 15 ∨ c = 16 ∨ c = 20 ∨ c = 21 ∨ c = 22 ∨ c = 24 ∨ c = 25 ∨ c = 30 ∨ c = 31
  · rcases h with rfl | rfl | rfl | rfl | rfl | rfl | rfl | rfl | rfl | rfl | rfl | rfl | rfl | rfl | rfl | rfl | rfl | rfl
    all_goals
      go_enter Tryd.func19, Tryd.ntmps19
      go_wp2_with fail
      go_ret
      exact ⟨rfl, rfl⟩
  · have hv : classOf c = 6 := by unfold classOf; omega
    have f0 := ne_all h 0 (by decide)
    have f1 := ne_all h 1 (by decide)
    have f2 := ne_all h 2 (by decide)
    have f3 := ne_all h 23 (by decide)
    have f4 := ne_all h 10 (by decide)
    have f5 := ne_all h 11 (by decide)
    have f6 := ne_all h 12 (by decide)
    have f7 := ne_all h 13 (by decide)
    have f8 := ne_all h 14 (by decide)
    have f9 := ne_all h 15 (by decide)
    have f10 := ne_all h 16 (by decide)
    have f11 := ne_all h 20 (by decide)
    have f12 := ne_all h 21 (by decide)
    have f13 := ne_all h 22 (by decide)
    have f14 := ne_all h 24 (by decide)
    have f15 := ne_all h 25 (by decide)
    have f16 := ne_all h 30 (by decide)
    have f17 := ne_all h 31 (by decide)
    have HV := Lib.hid hv
    clear h hv
    go_enter Tryd.func19, Tryd.ntmps19
    go_wp2_with fail
    go_ret
    exact ⟨by rw [HV.out]; rfl, rfl⟩
set_option maxRecDepth 100000 in
set_option maxHeartbeats 8000000 in
theorem rclass_any (c : Int) (w : World) : Calls Tryd.prog 20 #[.int .i64 c] w (ClassRet w c) := by
  by_cases h : c = 0 ∨ c = 1 ∨ c = 2 ∨ c = 23 ∨ c = 10 ∨ c = 11 ∨ c = 12 ∨ c = 13 ∨ c = 14 ∨ c = 15 ∨ c = 16 ∨ c = 20 ∨ c = 21 ∨ c = 22 ∨ c = 24 ∨ c = 25 ∨ c = 30 ∨ c = 31
  · rcases h with rfl | rfl | rfl | rfl | rfl | rfl | rfl | rfl | rfl | rfl | rfl | rfl | rfl | rfl | rfl | rfl | rfl | rfl
    all_goals
      go_enter Tryd.func20, Tryd.ntmps20
      go_wp2_with fail
      go_ret
      exact ⟨rfl, rfl⟩
  · have hv : classOf c = 6 := by unfold classOf; omega
    have f0 := ne_all h 0 (by decide)
    have f1 := ne_all h 1 (by decide)
    have f2 := ne_all h 2 (by decide)
    have f3 := ne_all h 23 (by decide)
    have f4 := ne_all h 10 (by decide)
    have f5 := ne_all h 11 (by decide)
    have f6 := ne_all h 12 (by decide)
    have f7 := ne_all h 13 (by decide)
    have f8 := ne_all h 14 (by decide)
    have f9 := ne_all h 15 (by decide)
    have f10 := ne_all h 16 (by decide)
    have f11 := ne_all h 20 (by decide)
    have f12 := ne_all h 21 (by decide)
    have f13 := ne_all h 22 (by decide)
    have f14 := ne_all h 24 (by decide)
    have f15 := ne_all h 25 (by decide)
    have f16 := ne_all h 30 (by decide)
    have f17 := ne_all h 31 (by decide)
    have HV := Lib.hid hv
    clear h hv
    go_enter Tryd.func20, Tryd.ntmps20
    go_wp2_with fail
    go_ret
    exact ⟨by rw [HV.out]; rfl, rfl⟩

theorem Bf.nError (n : Nat) (e : Option Addr) (w : World) : (nilAhead (n + 1) 60 (.pointer e) "Error").run Tryd.prog w = .ok (some false) w := by kernel_rfl
def exT : Er := .one [112, 117, 115, 104] [98] (.one [97, 112, 112, 101, 110, 100] [97] (.code 24))
theorem exText : strOf (textOf exT) = ⟨#[112, 117, 115, 104, 32, 98, 58, 32, 97, 112, 112, 101, 110, 100, 32, 97, 58, 32, 101, 114, 114, 110, 111, 32, 50, 52]⟩ := by
  decide +kernel
def Yes (w : World) (e : Ending) (w' : World) : Prop := e = .returned (.bool true) ∧ Below w.heap.size w w'
set_option maxRecDepth 100000 in
set_option maxHeartbeats 8000000 in
theorem lives02 (w : World) (hg : ErrT w) : Calls Tryd.prog 21 #[] w (Yes w) := by
  go_enter Tryd.func21, Tryd.ntmps21
  go_wp2_with fail
  refine (of_any (N := fun _ => True) 24 (by decide) [97, 112, 112, 101, 110, 100] [97] w (fun _ _ => trivial)).mono ?_
  rintro e w1 ⟨v1, rfl, hv1, hb1⟩
  go_wp2_with fail
  refine (wrap_any (.one [97, 112, 112, 101, 110, 100] [97] (.code 24)) v1 [112, 117, 115, 104] [98] w1 (by decide) (show (24 : Int) ≠ 0 by decide) hv1 (hg.below hb1) (fun _ _ => trivial)).mono ?_
  rintro e w2 ⟨v2, rfl, hv2, hb2⟩
  have hbw2 := hb1.trans (hb2.mono hb1.size)
  have hv2' : ErV w2 exT v2 := hv2
  obtain ⟨g, u, rfl, -, -⟩ := hv2
  have m1 := Bf.mError
  have m2 := Bf.nError
  go_wp2_with fail
  refine (error_any exT g w2 (by decide) (show (24 : Int) ≠ 0 by decide) ⟨by decide, by decide, trivial⟩ hv2' (hg.below hbw2) (.inl (by decide))).mono ?_
  rintro e w3 ⟨rfl, hb3⟩
  rw [exText]
  have hbw3 := hbw2.trans (hb3.mono hbw2.size)
  have hv3 := hv2'.below hb3
  go_wp2_with fail
  refine (code_any exT _ w3 (by decide) (.inr (show (24 : Int) ≠ 0 by decide)) hv3 (hg.below hbw3)).mono ?_
  rintro e w4 ⟨rfl, hb4⟩
  rw [show first0 exT.codes = 24 by decide]
  have hbw4 := hbw3.trans (hb4.mono hbw3.size)
  have hv4 := hv3.below hb4
  go_wp2_with fail
  refine (code_any exT _ w4 (by decide) (.inr (show (24 : Int) ≠ 0 by decide)) hv4 (hg.below hbw4)).mono ?_
  rintro e w5 ⟨rfl, hb5⟩
  rw [show first0 exT.codes = 24 by decide]
  have hbw5 := hbw4.trans (hb5.mono hbw4.size)
  go_wp2_with fail
  refine (class_any 24 w5).mono ?_
  rintro e w6 ⟨rfl, rfl⟩
  rw [show classOf 24 = 4 by decide]
  go_wp2_with fail
  go_ret
  exact ⟨rfl, hbw5⟩
set_option maxRecDepth 100000 in
set_option maxHeartbeats 8000000 in
theorem blameClasses_any (c : Int) (w : World) (hg : ErrT w) : Calls Tryd.prog 4 #[.int .i64 c] w (Yes w) := by
  obtain ⟨k, hk⟩ : ∃ k, k = classOf c := ⟨_, rfl⟩
  have h1 := fun w' => class_any c w'
  have h2 := fun w' => rclass_any c w'
  unfold ClassRet at h1 h2
  rw [← hk] at h1 h2
  clear hk
  have H := Lib.hid (And.intro h1 h2)
  clear h1 h2
  go_enter Tryd.func4, Tryd.ntmps4
  go_wp2_with fail
  refine (H.out.1 w).mono ?_
  rintro e w1 ⟨rfl, rfl⟩
  go_wp2_with fail
  refine (H.out.2 w).mono ?_
  rintro e w1 ⟨rfl, rfl⟩
  go_wp2_with fail
  refine (lives02 w hg).mono ?_
  rintro e w1 ⟨rfl, hb1⟩
  go_wp2_with fail
  go_ret
  exact ⟨rfl, hb1⟩
end Go.Proofs.YthhhiiagppckhaaDoor
