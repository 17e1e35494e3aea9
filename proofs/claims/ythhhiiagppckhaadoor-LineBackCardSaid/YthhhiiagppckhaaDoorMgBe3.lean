/- Errors: errors.As by way of errors.as; conditions: none beyond its hypotheses. -/
import Derived.Test.YthhhiiagppckhaaDoorMgBe2
set_option linter.unusedSimpArgs false
set_option linter.unusedVariables false
section
namespace Go.Proofs.YthhhiiagppckhaaDoor
open Go.RowKit Go.Proofs.U Go.Extern.Stop Go.Stop Go.Extern
set_option linter.unusedVariables false

set_option maxRecDepth 100000 in
set_option maxHeartbeats 4000000 in
theorem as_via_B (T : TypeId) (v : Value) (t : Addr) (w : World) (R : Bool → World → Prop) (hg : ErrT w)
    (h : ∀ w1 a, Below w.heap.size w w1 → w1.cell? a = some (.pointer (some t)) → Calls Tryd.prog 72 #[.iface T v, .iface 62 (.pointer (some t)), rv 62 a 150, rt 60] w1 (AsRet R)) :
    Calls Tryd.prog 31 #[.iface T v, .iface 62 (.pointer (some t))] w (AsRet R) := by
  have hlt := hg.lt
  have hV := Bf.cV
  have hT := Bf.cT
  have hN := Bf.cN
  have hK := Bf.cK
  have hE := Bf.cE
  have hI := Bf.cI
  have g1 := Bf.valueOfB
  have g2 := Bf.typeB
  have g3 := Bf.mKind
  have g4 := Bf.kindB
  have g5 := Bf.mElem
  have g6 := Bf.elemB
  have g7 := Bf.kindb
  have g8 := Bf.mImplements
  have g9 := Bf.implb
  obtain ⟨w1, hw1⟩ : ∃ w1, w1 = (w.alloc (.cells #[.pointer (some t)] 62)).alloc (.cells #[hd 62, .pointer (some ⟨w.heap.size, 0, none⟩), .int .u64 150] 127) := ⟨_, rfl⟩
  have hb1 : Below w.heap.size w w1 := by rw [hw1]; exact ((Below.refl _ _).alloc (Nat.le_refl _) _).alloc (by simp) _
  have hc1 : w1.cell? ⟨w.heap.size, 0, none⟩ = some (.pointer (some t)) := by rw [hw1, World.cell?_alloc_lt _ _ ⟨w.heap.size, 0, none⟩ (by simp)]; simp
  have g10 := Bf.isNilB ⟨w.heap.size, 0, none⟩ t w1 hc1
  have hg1 : w1.cell? ⟨0, 0, none⟩ = some (rt 48) := hg.below hb1
  have hcall := h w1 ⟨w.heap.size, 0, none⟩ hb1 hc1
  rw [hw1] at g10 hg1 hcall
  have HQ := Lib.hid (And.intro hb1 hc1)
  clear hb1 hc1 hw1
  go_enter Tryd.func31, Tryd.ntmps31
  go_wp2_with (go_at_call 72; refine hcall.mono ?_; rintro e w' ⟨bb, rfl, hr⟩)
  go_ret
  exact ⟨bb, rfl, hr⟩
end Go.Proofs.YthhhiiagppckhaaDoor
end
