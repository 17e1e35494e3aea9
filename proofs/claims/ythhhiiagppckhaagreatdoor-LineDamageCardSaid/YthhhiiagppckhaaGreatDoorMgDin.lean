/- The walks of the package intake; conditions: none beyond their hypotheses. -/
import Derived.Test.YthhhiiagppckhaaGreatDoorMgDfr
import Derived.Deep.WholeRow
set_option linter.unusedSimpArgs false
set_option linter.unusedVariables false
section
namespace Go.Proofs.YthhhiiagppckhaaGreatDoor
open Go.RowKit Go.Proofs.U
set_option linter.unusedVariables false

theorem only_at {a w : World} {g i : Nat} {u : Value} (h : a.grownBy w (some g)) : a.grownBy (w.setCell ⟨g, i, none⟩ u) (some g) := only_setCell h (.inl rfl) u
/-- an intake's cells: bytes held and left over, their number, an error's number -/
def inkL (P tl : List UInt8) (e : Int) : List Value := (P ++ tl).map bv ++ [.int .i64 (P.length : Int), .int .i64 e, .bool false, .nilIface]
def ink0 : Array Value := (List.replicate 1410 (Value.int .u8 0) ++ [Value.int .i64 0, Value.int .i64 0, Value.bool false, Value.nilIface]).toArray
theorem zero_ink : (Tryz.prog.info? 61).map (fun i => (i.zero, i.size)) = some (some (.agg ink0), 1414) := by kernel_rfl

/-- an intake in memory: what it holds, its error's number -/
def Ink (w : World) (g : Nat) (P : List UInt8) (e : Int) : Prop := ∃ tl : List UInt8, P.length + tl.length = 1410 ∧ Blk w g 61 (inkL P tl e).toArray
theorem inkL_len (P tl : List UInt8) (e : Int) (h : P.length + tl.length = 1410) : (inkL P tl e).length = 1414 := by unfold inkL; simp; omega
theorem inkL_have (P tl : List UInt8) (e : Int) (h : P.length + tl.length = 1410) : (inkL P tl e)[1410]? = some (.int .i64 (P.length : Int)) := by
  unfold inkL; rw [List.getElem?_append_right (by simp; omega)]; simp [h]
theorem inkL_err (P tl : List UInt8) (e : Int) (h : P.length + tl.length = 1410) : (inkL P tl e)[1411]? = some (.int .i64 e) := by
  unfold inkL; rw [List.getElem?_append_right (by simp; omega)]; simp [h]
theorem inkL_part (P tl : List UInt8) (e : Int) (j : Nat) (h : j < P.length) : (inkL P tl e)[j]? = some (bv P[j]) := by
  unfold inkL; rw [List.getElem?_append_left (by simp; omega), List.getElem?_map, List.getElem?_append_left h]; simp [h]
theorem Ink.lt {w : World} {g : Nat} {P : List UInt8} {e : Int} (h : Ink w g P e) : g < w.heap.size := by obtain ⟨tl, _, hb⟩ := h; exact hb.lt
theorem Ink.have_ {w : World} {g : Nat} {P : List UInt8} {e : Int} (h : Ink w g P e) : w.cell? ⟨g, 1410, none⟩ = some (.int .i64 (P.length : Int)) := by
  obtain ⟨tl, hl, hb⟩ := h
  rw [hb.cell]; simpa using inkL_have P tl e hl
theorem Ink.err {w : World} {g : Nat} {P : List UInt8} {e : Int} (h : Ink w g P e) : w.cell? ⟨g, 1411, none⟩ = some (.int .i64 e) := by
  obtain ⟨tl, hl, hb⟩ := h
  rw [hb.cell]; simpa using inkL_err P tl e hl
theorem Ink.free {w : World} {g : Nat} {P : List UInt8} {e : Int} (h : Ink w g P e) (i : Nat) : w.frozen? ⟨g, i, none⟩ = false := by
  obtain ⟨tl, _, hb⟩ := h; exact hb.frozen i
theorem Ink.bs {w : World} {g : Nat} {P : List UInt8} {e : Int} (h : Ink w g P e) : BS w w.heap.size (some ⟨g, 0, none⟩) P.length P := by
  refine ⟨rfl, fun _ => ⟨g, 0, rfl, h.lt, fun j hj => ?_⟩⟩
  obtain ⟨tl, _, hb⟩ := h
  rw [Nat.zero_add, hb.cell]; simpa [bv] using inkL_part P tl e j hj
theorem Ink.set2 {w : World} {g : Nat} {P : List UInt8} {e : Int} (h : Ink w g P e) (P' : List UInt8) (e' : Int) (hp : P'.length = 0) :
    Ink ((w.setCell ⟨g, 1410, none⟩ (.int .i64 0)).setCell ⟨g, 1411, none⟩ (.int .i64 e')) g P' e' := by
  obtain rfl := List.eq_nil_of_length_eq_zero hp
  obtain ⟨tl, hl, hb⟩ := h
  refine ⟨P ++ tl, by simpa using hl, ?_⟩
  have := (hb.set_ 1410 (.int .i64 0)).set_ 1411 (.int .i64 e')
  have he : (inkL [] (P ++ tl) e').toArray = ((inkL P tl e).toArray.setIfInBounds 1410 (.int .i64 0)).setIfInBounds 1411 (.int .i64 e') := by
    unfold inkL
    rw [List.setIfInBounds_toArray, List.setIfInBounds_toArray, List.set_append_right _ _ (by simp; omega), List.set_append_right _ _ (by simp; omega)]
    simp [hl]
  rw [he]; exact this
theorem Ink.below {w w' : World} {g : Nat} {P : List UInt8} {e : Int} (h : Ink w g P e) (hb : Below w.heap.size w w') : Ink w' g P e := by
  obtain ⟨tl, hl, hk⟩ := h; exact ⟨tl, hl, hk.stay hb⟩
theorem Ink.drewN {w : World} {g : Nat} {P : List UInt8} {e : Int} (h : Ink w g P e) (n : Nat) : Ink (w.drewN n) g P e := h
theorem Ink.grown {w w' : World} {g : Nat} {P : List UInt8} {e : Int} {row : Option Nat} (h : Ink w g P e) (hb : w.grownBy w' row) (hg : some g ≠ row) : Ink w' g P e := by
  obtain ⟨tl, hl, hk⟩ := h; exact ⟨tl, hl, hk.grown hb hg⟩

theorem ink0_eq : ink0 = (inkL [] (List.replicate 1410 0) 0).toArray := by
  unfold ink0 inkL
  have : ∀ n, (List.replicate n (.int .u8 0) ++ [.int .i64 0, .int .i64 0, .bool false, .nilIface] : List Value) = (([] : List UInt8) ++ List.replicate n 0).map bv ++ [.int .i64 (([] : List UInt8).length : Int), .int .i64 0, .bool false, .nilIface] := fun n => by rw [List.nil_append, List.map_replicate]; rfl
  rw [this]
set_option maxHeartbeats 400000 in
theorem fault_any (g : Nat) (P : List UInt8) (e : Int) (w : World) (h : Ink w g P e) : Calls Tryz.prog 31 #[.pointer (some ⟨g, 0, none⟩)] w fun en w' => en = .returned (.int .i64 e) ∧ w = w' := by
  have c1 := h.err
  go_enter Tryz.func31, Tryz.ntmps31
  go_wp2_with fail
  go_ret
  exact ⟨rfl, rfl⟩
set_option maxHeartbeats 400000 in
theorem reset_any (g : Nat) (P : List UInt8) (e : Int) (w : World) (h : Ink w g P e) : Calls Tryz.prog 40 #[.pointer (some ⟨g, 0, none⟩)] w fun en w' => en = .returned (.tuple #[]) ∧ Ink w' g [] 0 ∧ w.grownBy w' (some g) := by
  have c1 := h.have_
  have c2 := h.err
  have f1 := h.free 1410
  have f2 := h.free 1411
  go_enter Tryz.func40, Tryz.ntmps40
  go_wp2_with fail
  go_end0
  have h1 := h.set2 [] 0 rfl
  refine ⟨rfl, ?_, ?_⟩
  · exact h1
  · exact only_at (only_at (World.grownBy.refl w _))
set_option maxHeartbeats 400000 in
theorem nilFault_any (w : World) : Calls Tryz.prog 31 #[.pointer none] w fun en w' => en = .returned (.int .i64 1) ∧ w = w' := by
  go_enter Tryz.func31, Tryz.ntmps31
  go_wp2_with fail
  go_ret
  exact ⟨rfl, rfl⟩
set_option maxHeartbeats 400000 in
theorem nilReset_any (w : World) : Calls Tryz.prog 40 #[.pointer none] w fun en w' => en = .returned (.tuple #[]) ∧ w = w' := by
  go_enter Tryz.func40, Tryz.ntmps40
  go_wp2_with fail
  go_end0
  exact ⟨rfl, rfl⟩
end Go.Proofs.YthhhiiagppckhaaGreatDoor
end
