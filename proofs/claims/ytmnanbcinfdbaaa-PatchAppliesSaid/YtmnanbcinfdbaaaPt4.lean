/- The walk of a patch's Feed: at none; conditions: none beyond its hypotheses. -/
import Derived.Test.YtmnanbcinfdbaaaPt3
import Derived.WalkMore
namespace Go.Proofs.Ytmnanbcinfdbaaa
open Go.RowKit Go.Proofs.U
set_option linter.unusedVariables false
set_option maxRecDepth 100000 in
set_option maxHeartbeats 1000000 in
theorem feed_nil (A : Option Addr) (n c : Nat) (w : World) : Calls Try.prog 24 #[.pointer none, .slice A n c] w fun e w' => e = .returned (.tuple #[.slice none 0 0, .int .i64 1]) ∧ Drawn w w' := by
  go_enter_defers Try.func24, Try.ntmps24
  go_wp2_with fail
  go_step3
  go_wp2_with (go_at_call 25; refine (fault_nil _).mono ?_; rintro e w1 ⟨rfl, rfl⟩)
  rw [Exit.noGoto_ret]
  refine ⟨_, results_tmp2 rfl _ _ _, rfl, Drawn.refl _⟩
end Go.Proofs.Ytmnanbcinfdbaaa
