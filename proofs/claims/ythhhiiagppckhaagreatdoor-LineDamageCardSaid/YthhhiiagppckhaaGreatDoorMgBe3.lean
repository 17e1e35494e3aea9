/- Errors: errors.As by way of errors.as; conditions: none beyond its hypotheses. -/
import Derived.Test.YthhhiiagppckhaaGreatDoorMgBe2
set_option linter.unusedSimpArgs false
set_option linter.unusedVariables false
section
namespace Go.Proofs.YthhhiiagppckhaaGreatDoor
open Go.RowKit Go.Proofs.U Go.Extern.Stop Go.Stop Go.Extern
set_option linter.unusedVariables false

set_option maxRecDepth 100000 in
set_option maxHeartbeats 4000000 in
theorem as_via_B (T : TypeId) (v : Value) (t : Addr) (w : World) (R : Bool → World → Prop) (hg : ErrT w)
    (h : ∀ w1 a, Below w.heap.size w w1 → w1.cell? a = some (.pointer (some t)) → Calls Tryz.prog 77 #[.iface T v, .iface 137 (.pointer (some t)), rv 137 a 150, rt 122] w1 (AsRet R)) :
    Calls Tryz.prog 66 #[.iface T v, .iface 137 (.pointer (some t))] w (AsRet R) := by
  have hlt := hg.lt
  have hV := Bf.cV
  have hT := Bf.cT
  have hN := Bf.cN
  have hK := Bf.cK
  have hE := Bf.cE
  have hI := Bf.cI
  have g1 := Bf.valueOfB
  have g2 := Bf.typeB
  have g3 := Bf.mKind
  have g4 := Bf.kindB
  have g5 := Bf.mElem
  have g6 := Bf.elemB
  have g7 := Bf.kindb
  have g8 := Bf.mImplements
  have g9 := Bf.implb
  obtain ⟨w1, hw1⟩ : ∃ w1, w1 = (w.alloc (.cells #[.pointer (some t)] 137)).alloc (.cells #[hd 137, .pointer (some ⟨w.heap.size, 0, none⟩), .int .u64 150] 148) := ⟨_, rfl⟩
  have hb1 : Below w.heap.size w w1 := by rw [hw1]; exact ((Below.refl _ _).alloc (Nat.le_refl _) _).alloc (by simp) _
  have hc1 : w1.cell? ⟨w.heap.size, 0, none⟩ = some (.pointer (some t)) := by rw [hw1, World.cell?_alloc_lt _ _ ⟨w.heap.size, 0, none⟩ (by simp)]; simp
  have g10 := Bf.isNilB ⟨w.heap.size, 0, none⟩ t w1 hc1
  have hg1 : w1.cell? ⟨0, 0, none⟩ = some (rt 42) := hg.below hb1
  have hcall := h w1 ⟨w.heap.size, 0, none⟩ hb1 hc1
  rw [hw1] at g10 hg1 hcall
  have HQ := Lib.hid (And.intro hb1 hc1)
  clear hb1 hc1 hw1
  go_enter Tryz.func66, Tryz.ntmps66
  go_wp2_with (go_at_call 77; refine hcall.mono ?_; rintro e w' ⟨bb, rfl, hr⟩)
  go_ret
  exact ⟨bb, rfl, hr⟩
end Go.Proofs.YthhhiiagppckhaaGreatDoor
end
