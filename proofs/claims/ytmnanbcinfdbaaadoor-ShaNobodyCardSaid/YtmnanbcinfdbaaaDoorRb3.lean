/- The walks of the reference of sha: its constants and its digest; conditions: none beyond their hypotheses. -/
import Derived.Test.YtmnanbcinfdbaaaDoorRb2
import Derived.Test.YtmnanbcinfdbaaaDoorRs1
namespace Go.Proofs.YtmnanbcinfdbaaaDoor
open Go.RowKit Go.Proofs.U
set_option linter.unusedVariables false

def kls : List (BitVec 32) := (List.range 64).map Sh.K
theorem VS.freshAt (w : World) (b : Nat) (hb : b = w.heap.size) (e : TypeId) (cs : Array Value) (vs : List Value) (n : Nat) (h : cs.toList = vs) (hn : vs.length = n) : VS (w.alloc (.cells cs e)) (w.alloc (.cells cs e)).heap.size (some ⟨b, 0, none⟩) n vs := by
  subst hb
  exact VS.fresh' w e cs vs n h hn
def ConstsRet (w : World) (e : Ending) (w' : World) : Prop :=
  ∃ g1 g2, e = .returned (.tuple #[.slice (some ⟨g1, 0, none⟩) 8 8, .slice (some ⟨g2, 0, none⟩) 64 64]) ∧ VS w' w'.heap.size (some ⟨g1, 0, none⟩) 8 (Sh.H0.l.map uv) ∧ VS w' w'.heap.size (some ⟨g2, 0, none⟩) 64 (((List.range 64).map Sh.K).map uv) ∧ Below w.heap.size w w'
set_option maxRecDepth 100000 in
set_option maxHeartbeats 4000000 in
theorem consts_any (w : World) : Calls Tryd.prog 64 #[] w (ConstsRet w) := by
  go_enter Tryd.func64, Tryd.ntmps64
  go_wp2_with fail
  go_ret2
  have hal : ∀ o, Below w.heap.size w (w.alloc o) := fun o => (Below.refl _ _).alloc (Nat.le_refl _) _
  refine ⟨_, _, rfl, VS.stay (VS.fresh' w 34 _ _ _ ?_ rfl) ((Below.refl _ _).alloc (Nat.le_refl _) _), VS.freshAt _ _ (by simp) 34 _ _ _ ?_ ?_, ((hal _).alloc (by simp) _)⟩
  · kernel_rfl
  · kernel_rfl
  · simp
end Go.Proofs.YtmnanbcinfdbaaaDoor
