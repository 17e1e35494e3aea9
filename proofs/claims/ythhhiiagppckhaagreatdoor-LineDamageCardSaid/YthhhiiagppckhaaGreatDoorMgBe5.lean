/- Errors: errors.as of a blame and of a number; conditions: none beyond their hypotheses. -/
import Derived.Test.YthhhiiagppckhaaGreatDoorMgBe2
set_option linter.unusedSimpArgs false
set_option linter.unusedVariables false
section
namespace Go.Proofs.YthhhiiagppckhaaGreatDoor
open Go.RowKit Go.Proofs.U Go.Extern.Stop Go.Stop Go.Extern
set_option linter.unusedVariables false

theorem boxed (w : World) (o : Obj) : Below w.heap.size w (w.alloc o) := (Below.refl _ _).alloc (Nat.le_refl _) _
theorem free_below {w w' : World} {a : Addr} {v : Value} (hc : w.cell? a = some v) (hf : w.frozen? a = false) (hb : Below w.heap.size w w') : w'.frozen? a = false := (hb.frozen (World.block_lt_of_cell? w _ hc)).trans hf

set_option maxRecDepth 100000 in
set_option maxHeartbeats 4000000 in
theorem as_hit_b (e : Option Addr) (t a : Addr) (old : Value) (w : World) (ha : w.cell? a = some (.pointer (some t))) (ht0 : w.cell? t = some old) (hf0 : w.frozen? t = false) :
    Calls Tryz.prog 77 #[.iface 122 (.pointer e), .iface 137 (.pointer (some t)), rv 137 a 150, rt 122] w (AsHit w t (.pointer e)) := by
  have hO := Bf.cO
  have hA := Bf.cA
  have hL := Bf.cL
  have hV := Bf.cV
  have hS := Bf.cS
  have g10 := Bf.typeOfb
  have g11 := Bf.mAssignableTo
  have g12 := Bf.asg_b_b
  have g13 := Bf.valueOfb
  obtain ⟨w1, hw1⟩ : ∃ w1, w1 = w.alloc (.cells #[hd 137, .pointer (some a), .int .u64 150] 148) := ⟨_, rfl⟩
  have hb1 : Below w.heap.size w w1 := by rw [hw1]; exact boxed _ _
  have g14 := Bf.elemVB a t w1 (cell_below ha hb1)
  obtain ⟨w2, hw2⟩ : ∃ w2, w2 = w1.alloc (.cells #[.pointer e] 122) := ⟨_, rfl⟩
  have hb2 : Below w1.heap.size w1 w2 := by rw [hw2]; exact boxed _ _
  have hbw2 := hb1.trans (hb2.mono hb1.size)
  have g15 := Bf.setb t ⟨w1.heap.size, 0, none⟩ e old w2 (by rw [hw2]; simp) (cell_below ht0 hbw2) (free_below ht0 hf0 hbw2)
  have HB := Lib.hid hbw2
  have HW := Lib.hid (And.intro hw1 hw2)
  rw [hw2, hw1] at g15
  rw [hw1] at g14
  rw [show (w.alloc (.cells #[hd 137, .pointer (some a), .int .u64 150] 148)).heap.size = w.heap.size + 1 by simp] at g15
  clear hw1 hw2 hb1 hb2 hbw2
  go_enter Tryz.func77, Tryz.ntmps77
  go_wp2
  refine wp_loop_rounds 1 ?_
  rw [rounds_succ]
  go_wp2
  go_ret
  exact ⟨rfl, w2, HB.out, by rw [HW.out.2, HW.out.1]⟩

set_option maxRecDepth 100000 in
set_option maxHeartbeats 4000000 in
theorem as_hit_e (e : Int) (t a : Addr) (old : Value) (w : World) (ha : w.cell? a = some (.pointer (some t))) (ht0 : w.cell? t = some old) (hf0 : w.frozen? t = false) :
    Calls Tryz.prog 77 #[.iface 23 (.int .i64 e), .iface 138 (.pointer (some t)), rv 138 a 150, rt 23] w (AsHit w t (.int .i64 e)) := by
  have hO := Bf.cO
  have hA := Bf.cA
  have hL := Bf.cL
  have hV := Bf.cV
  have hS := Bf.cS
  have g10 := Bf.typeOfe
  have g11 := Bf.mAssignableTo
  have g12 := Bf.asg_e_e
  have g13 := Bf.valueOfe
  obtain ⟨w1, hw1⟩ : ∃ w1, w1 = w.alloc (.cells #[hd 138, .pointer (some a), .int .u64 150] 148) := ⟨_, rfl⟩
  have hb1 : Below w.heap.size w w1 := by rw [hw1]; exact boxed _ _
  have g14 := Bf.elemVE a t w1 (cell_below ha hb1)
  obtain ⟨w2, hw2⟩ : ∃ w2, w2 = w1.alloc (.cells #[.int .i64 e] 23) := ⟨_, rfl⟩
  have hb2 : Below w1.heap.size w1 w2 := by rw [hw2]; exact boxed _ _
  have hbw2 := hb1.trans (hb2.mono hb1.size)
  have g15 := Bf.sete t ⟨w1.heap.size, 0, none⟩ e old w2 (by rw [hw2]; simp) (cell_below ht0 hbw2) (free_below ht0 hf0 hbw2)
  have HB := Lib.hid hbw2
  have HW := Lib.hid (And.intro hw1 hw2)
  rw [hw2, hw1] at g15
  rw [hw1] at g14
  rw [show (w.alloc (.cells #[hd 138, .pointer (some a), .int .u64 150] 148)).heap.size = w.heap.size + 1 by simp] at g15
  clear hw1 hw2 hb1 hb2 hbw2
  go_enter Tryz.func77, Tryz.ntmps77
  go_wp2
  refine wp_loop_rounds 1 ?_
  rw [rounds_succ]
  go_wp2
  go_ret
  exact ⟨rfl, w2, HB.out, by rw [HW.out.2, HW.out.1]⟩

set_option maxRecDepth 100000 in
set_option maxHeartbeats 4000000 in
theorem as_miss_e (c : Int) (t a : Addr) (w : World) : Calls Tryz.prog 77 #[.iface 23 (.int .i64 c), .iface 137 (.pointer (some t)), rv 137 a 150, rt 122] w (AsMiss w) := by
  have hO := Bf.cO
  have hA := Bf.cA
  have g10 := Bf.typeOfe
  have g11 := Bf.mAssignableTo
  have g12 := Bf.asg_e_b
  have n1 := Bf.noAs_e
  have n2 := Bf.noUnwrap_e
  have n3 := Bf.noUnwraps_e
  go_enter Tryz.func77, Tryz.ntmps77
  go_wp2
  refine wp_loop_rounds 1 ?_
  rw [rounds_succ]
  go_wp2
  go_ret
  exact ⟨rfl, boxed _ _⟩
end Go.Proofs.YthhhiiagppckhaaGreatDoor
end
