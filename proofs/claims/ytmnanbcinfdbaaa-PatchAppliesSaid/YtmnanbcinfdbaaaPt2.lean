/- The walks of a patch's small methods; conditions: none beyond their hypotheses. -/
import Derived.Test.YtmnanbcinfdbaaaPt1
import Derived.Test.YtmnanbcinfdbaaaL19
import Derived.Defers
namespace Go.Proofs.Ytmnanbcinfdbaaa
open Go.RowKit Go.Proofs.U
set_option linter.unusedVariables false

/-- a patch's cells -/
def ptC (Ab : Option Addr) (nb cb : Nat) (Ah : Option Addr) (nh ch : Nat) (out e : Int) : Array Value := #[.slice Ab nb cb, .slice Ah nh ch, .int .i64 out, .int .i64 e]
set_option maxHeartbeats 400000 in
theorem fault_nil (w : World) : Calls Try.prog 25 #[.pointer none] w fun e w' => e = .returned (.int .i64 1) ∧ w = w' := by
  go_enter Try.func25, Try.ntmps25
  go_wp2
  go_ret
  exact ⟨rfl, rfl⟩
set_option maxHeartbeats 400000 in
theorem out_nil (w : World) : Calls Try.prog 27 #[.pointer none] w fun e w' => e = .returned (.int .i64 0) ∧ w = w' := by
  go_enter Try.func27, Try.ntmps27
  go_wp2
  go_ret
  exact ⟨rfl, rfl⟩
set_option maxHeartbeats 400000 in
theorem held_nil (w : World) : Calls Try.prog 28 #[.pointer none] w fun e w' => e = .returned (.int .i64 0) ∧ w = w' := by
  go_enter Try.func28, Try.ntmps28
  go_wp2
  go_ret
  exact ⟨rfl, rfl⟩
section
variable {w : World} {g : Nat} {Ab Ah : Option Addr} {nb cb nh ch : Nat} {o f : Int}
set_option maxHeartbeats 400000 in
theorem fault_any (h : Blk w g 79 (ptC Ab nb cb Ah nh ch o f)) : Calls Try.prog 25 #[.pointer (some ⟨g, 0, none⟩)] w fun e w' => e = .returned (.int .i64 f) ∧ Drawn w w' := by
  have c3 := h.cell 3
  simp [ptC] at c3
  go_enter Try.func25, Try.ntmps25
  go_wp2
  go_ret
  exact ⟨rfl, Drawn.refl _⟩
set_option maxHeartbeats 400000 in
theorem out_any (h : Blk w g 79 (ptC Ab nb cb Ah nh ch o f)) : Calls Try.prog 27 #[.pointer (some ⟨g, 0, none⟩)] w fun e w' => e = .returned (.int .i64 o) ∧ Drawn w w' := by
  have c3 := h.cell 2
  simp [ptC] at c3
  go_enter Try.func27, Try.ntmps27
  go_wp2
  go_ret
  exact ⟨rfl, Drawn.refl _⟩
set_option maxHeartbeats 400000 in
theorem held_any (h : Blk w g 79 (ptC Ab nb cb Ah nh ch o f)) : Calls Try.prog 28 #[.pointer (some ⟨g, 0, none⟩)] w fun e w' => e = .returned (.int .i64 (nh : Int)) ∧ Drawn w w' := by
  have c3 := h.cell 1
  simp [ptC] at c3
  go_enter Try.func28, Try.ntmps28
  go_wp2
  go_ret
  exact ⟨rfl, Drawn.refl _⟩
end
set_option maxHeartbeats 400000 in
theorem new_any (A : Option Addr) (n c : Nat) (w : World) (hn : n ≤ 4096) : Calls Try.prog 22 #[.slice A n c] w fun e w' => e = .returned (.pointer (some ⟨w.heap.size, 0, none⟩)) ∧ w' = w.alloc (.cells (ptC A n c none 0 0 0 0) 79) := by
  go_enter Try.func22, Try.ntmps22
  go_wp2_with fail
  go_ret
  exact ⟨rfl, rfl⟩
set_option maxHeartbeats 400000 in
theorem new_long (A : Option Addr) (n c : Nat) (w : World) (hn : 4096 < n) : Calls Try.prog 22 #[.slice A n c] w fun e w' => e = .returned (.pointer none) ∧ w' = w := by
  go_enter Try.func22, Try.ntmps22
  go_wp2_with fail
  go_ret
  exact ⟨rfl, rfl⟩
end Go.Proofs.Ytmnanbcinfdbaaa
