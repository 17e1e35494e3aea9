/- The walks of sha's New, Clone, Len, eight; conditions: none beyond their hypotheses. -/
import Derived.Test.YtmnanbcinfdbaaaDoorSh3
namespace Go.Proofs.YtmnanbcinfdbaaaDoor
open Go.RowKit Go.Proofs.U
set_option linter.unusedVariables false

def zpart : List UInt8 := List.replicate 64 0
theorem zeroH : (Tryd.prog.info? 38).map (fun i => (i.zero, i.size)) = some (some (.agg (hcells (Sh.sub8 Sh.H0 Sh.H0) zpart 0).toArray), 73) := by kernel_rfl
theorem hcells_long (s : Sh.V8) (p : List UInt8) (long : Int) (h : p.length = 64) : (hcells s p long)[72]? = some (.int .i64 long) := by
  unfold hcells
  rw [List.getElem?_append_right (by simp [Sh.V8.l]), List.getElem?_append_right (by simp [Sh.V8.l]; omega)]
  simp [Sh.V8.l, h]
theorem hcells_set (s : Sh.V8) (p : List UInt8) (long l2 : Int) (h : p.length = 64) : (hcells s p long).toArray.setIfInBounds 72 (.int .i64 l2) = (hcells s p l2).toArray := by
  unfold hcells
  rw [List.setIfInBounds_toArray, List.set_append_right _ _ (by simp [Sh.V8.l]), List.set_append_right _ _ (by simp [Sh.V8.l]; omega)]
  simp [Sh.V8.l, h]
theorem hcells_part (s : Sh.V8) (p : List UInt8) (long : Int) (j : Nat) (x : UInt8) (h : p[j]? = some x) : (hcells s p long)[8 + j]? = some (bv x) := by
  unfold hcells
  have hl := (List.getElem?_eq_some_iff.1 h).1
  rw [List.getElem?_append_right (by simp [Sh.V8.l]), List.getElem?_append_left (by simp [Sh.V8.l]; omega), List.getElem?_map]
  simp [Sh.V8.l, h]
theorem hcells_splice (s : Sh.V8) (P J X : List UInt8) (long : Int) (h : P.length + J.length = 64) (hX : X.length ≤ J.length) :
    splice (hcells s (P ++ J) long) (8 + P.length) (X.map bv) = hcells s (P ++ X ++ J.drop X.length) long := by
  unfold splice hcells
  have e1 : (s.l.map uv).length = 8 := rfl
  have e2 : ((P ++ J).map bv ++ [Value.int .i64 long]) = P.map bv ++ (J.map bv ++ [Value.int .i64 long]) := by simp
  rw [e2, List.take_append, List.drop_append, e1]
  rw [List.take_of_length_le (by rw [e1]; omega), List.drop_of_length_le (by rw [e1]; omega)]
  rw [List.take_append_of_le_length (by simp), List.take_of_length_le (by simp), List.drop_append, List.drop_of_length_le (by simp; omega)]
  rw [List.drop_append_of_le_length (by simp; omega)]
  simp [List.map_drop]
  omega
theorem hcells_all (s : Sh.V8) (p : List UInt8) (long : Int) : (hcells s p long).toArray.all (·.oneCell') = true := by
  refine all_oneCell_toArray fun v hv => ?_
  unfold hcells at hv
  simp only [List.mem_append, List.mem_map, List.mem_singleton] at hv
  rcases hv with ⟨x, _, rfl⟩ | ⟨x, _, rfl⟩ | rfl <;> rfl

/-- a hash into which L was written -/
def Hsh (w : World) (g : Nat) (L : List UInt8) : Prop := ∃ J : List UInt8, (Sh.tl L).length + J.length = 64 ∧ Blk w g 38 (hcells (Sh.sub8 (Sh.st L) Sh.H0) (Sh.tl L ++ J) L.length).toArray
theorem Hsh.lt {w : World} {g : Nat} {L : List UInt8} (h : Hsh w g L) : g < w.heap.size := by obtain ⟨_, _, hb⟩ := h; exact hb.lt
theorem Hsh.below {w w' : World} {g : Nat} {L : List UInt8} (h : Hsh w g L) (hb : Below w.heap.size w w') : Hsh w' g L := by obtain ⟨J, hl, hk⟩ := h; exact ⟨J, hl, hk.stay hb⟩
theorem Hsh.grown {w w' : World} {g : Nat} {L : List UInt8} {row : Option Nat} (h : Hsh w g L) (hg : w.grownBy w' row) (hne : some g ≠ row) : Hsh w' g L := by obtain ⟨J, hl, hk⟩ := h; exact ⟨J, hl, hk.grown hg hne⟩
theorem Hsh.alloc {w : World} {g : Nat} {L : List UInt8} (h : Hsh w g L) (o : Obj) : Hsh (w.alloc o) g L := by obtain ⟨J, hl, hk⟩ := h; exact ⟨J, hl, hk.alloc o⟩
theorem Hsh.drew {w w' : World} {g : Nat} {L : List UInt8} (h : Hsh w g L) (hd : Drawn w w') : Hsh w' g L := by obtain ⟨q, rfl⟩ := hd; exact h
theorem Hsh.long {w : World} {g : Nat} {L : List UInt8} (h : Hsh w g L) : w.cell? ⟨g, 72, none⟩ = some (.int .i64 (L.length : Int)) := by
  obtain ⟨J, hl, hk⟩ := h
  rw [hk.cell, List.getElem?_toArray]; exact hcells_long _ _ _ (by rw [List.length_append]; exact hl)
theorem Hsh.zero (w : World) (z : Array Value) (hz : z = (hcells (Sh.sub8 Sh.H0 Sh.H0) zpart 0).toArray) : Hsh (w.alloc (.cells z 38)) w.heap.size [] := by
  refine ⟨zpart, rfl, ?_⟩
  have := Blk.new w 38 z
  rw [hz] at this ⊢; exact this

set_option maxHeartbeats 1000000 in
theorem shaNew_any (w : World) : Calls Tryd.prog 21 #[] w fun e w' => ∃ g, e = .returned (.pointer (some ⟨g, 0, none⟩)) ∧ w.heap.size ≤ g ∧ Hsh w' g [] ∧ Below w.heap.size w w' := by
  obtain ⟨hz, hs⟩ := Go.zero_of_info zeroH
  obtain ⟨z, hzz⟩ : ∃ z, z = (hcells (Sh.sub8 Sh.H0 Sh.H0) zpart 0).toArray := ⟨_, rfl⟩
  have Hz := Lib.hid hzz
  rw [← hzz] at hz
  clear hzz
  go_enter Tryd.func21, Tryd.ntmps21
  go_wp2_with fail
  go_ret
  exact ⟨_, rfl, Nat.le_refl _, Hsh.zero w z Hz.out, (Below.refl _ _).alloc (Nat.le_refl _) _⟩
set_option maxHeartbeats 1000000 in
theorem shaLen_any (g : Nat) (L : List UInt8) (w : World) (h : Hsh w g L) : Calls Tryd.prog 23 #[.pointer (some ⟨g, 0, none⟩)] w fun e w' => e = .returned (.int .i64 (L.length : Int)) ∧ w = w' := by
  have c1 := h.long
  go_enter Tryd.func23, Tryd.ntmps23
  go_wp2_with fail
  go_ret
  exact ⟨rfl, rfl⟩
set_option maxHeartbeats 1000000 in
theorem shaLenNil_any (w : World) : Calls Tryd.prog 23 #[.pointer none] w fun e w' => e = .returned (.int .i64 0) ∧ w = w' := by
  go_enter Tryd.func23, Tryd.ntmps23
  go_wp2_with fail
  go_ret
  exact ⟨rfl, rfl⟩
set_option maxHeartbeats 1000000 in
theorem shaCloneNil_any (w : World) : Calls Tryd.prog 25 #[.pointer none] w fun e w' => e = .returned (.pointer none) ∧ w = w' := by
  go_enter Tryd.func25, Tryd.ntmps25
  go_wp2_with fail
  go_ret
  exact ⟨rfl, rfl⟩
set_option maxHeartbeats 1000000 in
theorem shaClone_any (g : Nat) (L : List UInt8) (w : World) (h : Hsh w g L) : Calls Tryd.prog 25 #[.pointer (some ⟨g, 0, none⟩)] w fun e w' => ∃ g', e = .returned (.pointer (some ⟨g', 0, none⟩)) ∧ w.heap.size ≤ g' ∧ Hsh w' g' L ∧ Below w.heap.size w w' := by
  obtain ⟨hz, hs⟩ := Go.zero_of_info zeroH
  obtain ⟨z, hzz⟩ : ∃ z, z = (hcells (Sh.sub8 Sh.H0 Sh.H0) zpart 0).toArray := ⟨_, rfl⟩
  have Hz := Lib.hid hzz
  rw [← hzz] at hz
  clear hzz
  obtain ⟨J, hJ, hb⟩ := h
  have hsz : (Tryd.prog.info? 38).map (·.size) = some (hcells (Sh.sub8 (Sh.st L) Sh.H0) (Sh.tl L ++ J) L.length).toArray.size := by
    rw [hs, List.size_toArray, hcells_len, List.length_append, hJ]
  have Hs := Lib.hid hsz
  have hzs : z.size = (hcells (Sh.sub8 (Sh.st L) Sh.H0) (Sh.tl L ++ J) L.length).toArray.size := by
    rw [Hz.out, List.size_toArray, List.size_toArray, hcells_len, hcells_len, List.length_append, hJ]; rfl
  have Hzs := Lib.hid hzs
  clear hsz hs hzs
  have hnew := Blk.new w 38 z
  go_enter Tryd.func25, Tryd.ntmps25
  go_wp2_with (first
    | (refine wpList_load_blk rfl 38 (.tmp 7) rfl g rfl 38 _ _ hb Tryd.underlying38 rfl Hs.out ?_)
    | (refine wpList_store_blk rfl 38 (.tmp 3) (.tmp 8) rfl w.heap.size _ rfl rfl 38 _ hnew Hs.out Hzs.out (hcells_all _ _ _) ?_; intro w2 hb2 hg2))
  go_ret
  exact ⟨_, rfl, Nat.le_refl _, ⟨J, hJ, hb2⟩, ((Below.refl _ _).alloc (Nat.le_refl _) _).grown hg2 (by simp) (fun k hk => by injection hk; omega)⟩
end Go.Proofs.YtmnanbcinfdbaaaDoor
