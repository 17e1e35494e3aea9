/- The walks of msg.Name and of the example of layer 15; conditions: none beyond their hypotheses. -/
import Derived.Test.YthhhiiagppckhaaDoorMs12
namespace Go.Proofs.YthhhiiagppckhaaDoor
open Go.RowKit Go.Proofs.U
set_option linter.unusedVariables false

set_option maxRecDepth 100000 in
set_option maxHeartbeats 1000000 in
theorem mname_done (w : World) : Calls Tryd.prog 48 #[.int .i64 12] w fun e w' => e = .returned (.string ⟨#[100, 111, 110, 101]⟩) ∧ Below w.heap.size w w' := by
  have hkd := fun w' => mkind_in 11 (by decide) w'
  go_enter Tryd.func48, Tryd.ntmps48
  go_wp2_with fail
  refine (hkd _).mono ?_
  rintro e w2 ⟨rfl, hb2⟩
  go_wp2_with fail
  go_ret
  exact ⟨rfl, hb2.trans ((alloc_b _ _).mono hb2.size)⟩
def M15 : Ms.Msg := {Ms.zero with kind := 12, session := 5, n := 1, attempt := 2}
set_option maxRecDepth 100000 in
set_option maxHeartbeats 2000000 in
theorem lives15_any (w : World) : Calls Tryd.prog 11 #[] w fun e w' => e = .returned (.bool true) ∧ Below w.heap.size w w' := by
  have hW := mwrite_any 0 M15 (.agg (mCells M15 none 0 none 0)) w ⟨none, 0, none, 0, rfl, Dat.nil _ _ _, Nat.le_refl _, RwS.nil _ _ _, Nat.le_refl _⟩ (by decide) ⟨by decide, by decide, by decide, by decide, by decide, by intro x hx; cases hx⟩
  have hck : Ms.check M15 = 0 := by decide +kernel
  have hwr : wrM M15 = [1, 12, 1, 5, 1, 1, 1, 2] := by decide +kernel
  unfold WriteRet at hW
  rw [hck, hwr] at hW
  have HW := Lib.hid hW
  clear hW hck hwr
  go_enter Tryd.func11, Tryd.ntmps11
  go_wp2_with fail
  refine HW.out.mono ?_
  rintro e w2 ⟨A, c, rfl, hown, hb2⟩
  have kc : (convert 24 9 (.slice A 8 c)).run Tryd.prog w2 = .ok (.string ⟨#[1, 12, 1, 5, 1, 1, 1, 2]⟩) w2 := run_str (P := Tryd.prog) hown.bs 24 5 9 Tryd.underlying24 Tryd.underlying5 Tryd.underlying9 c
  go_wp2_with (go_at_call 48; refine (mname_done _).mono ?_; rintro e w3 ⟨rfl, hb3⟩)
  go_ret
  exact ⟨rfl, hb2.trans (hb3.mono hb2.size)⟩
end Go.Proofs.YthhhiiagppckhaaDoor
