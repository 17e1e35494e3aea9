/- The walk of the document's Same of messages that are the same; conditions: none beyond its hypotheses. -/
import Derived.Test.YthhhiiagppckhaaGreatDoorMgMs6
import Derived.Test.YthhhiiagppckhaaGreatDoorMgU
import Derived.Laws.StructEq
set_option linter.unusedSimpArgs false
set_option linter.unusedVariables false
section
namespace Go.Proofs.YthhhiiagppckhaaGreatDoor
open Go.RowKit Go.Proofs.U
set_option linter.unusedVariables false

theorem rwCells_at : ∀ (l : List Ms.Rw) (k : Nat) (x : Ms.Rw), l[k]? = some x → ∀ (j : Nat) v, (rwCells x)[j]? = some v → (l.flatMap rwCells)[k * 5 + j]? = some v
  | [], k, x, h, j, v, hv => by simp at h
  | y :: l, 0, x, h, j, v, hv => by
    simp at h; subst h
    rw [List.flatMap_cons, Nat.zero_mul, Nat.zero_add, List.getElem?_append_left (List.getElem?_eq_some_iff.1 hv).1]; exact hv
  | y :: l, k + 1, x, h, j, v, hv => by
    rw [List.flatMap_cons, List.getElem?_append_right (by simp [rwCells]; omega)]
    have e : (k + 1) * 5 + j - (rwCells y).length = k * 5 + j := by simp [rwCells]; omega
    rw [e]
    exact rwCells_at l k x (by simpa using h) j v hv
/-- a row behind a slice value -/
theorem RwS.at_ {w : World} {B0 k : Nat} {A : Option Addr} {l : List Ms.Rw} {x : Ms.Rw} (h : RwS w B0 A l) (hx : l[k]? = some x) : ∃ b off, A = some ⟨b, off, none⟩ ∧ b < w.heap.size ∧ w.rangeAt b (off + k * 5) (rwCells x) := by
  obtain ⟨b, off, e, hlt, _, hc⟩ := h (by have := (List.getElem?_eq_some_iff.1 hx).1; omega)
  refine ⟨b, off, e, hlt, fun j v hj => ?_⟩
  have := hc (k * 5 + j) v (rwCells_at l k x hx j v hj)
  rw [← Nat.add_assoc] at this
  exact this
theorem noHeldR : Tryz.prog.stoodInHeld 52 = false := by kernel_rfl
theorem strucR : Tryz.prog.underlying 52 = some (.struct (Tryz.prog.fieldsOf 52)) := by kernel_rfl
theorem row_eq (x : Ms.Rw) (w : World) : (Op.equalIn 10000 52 (.agg (rwCells x).toArray) (.agg (rwCells x).toArray)).run Tryz.prog w = .ok true w := by
  have u3 := Tryz.underlying3
  have a3 := Tryz.isAgg3
  have z3 := Tryz.sizeOf3
  have u9 := Tryz.underlying9
  have a9 := Tryz.isAgg9
  have z9 := Tryz.sizeOf9
  have u4 := Tryz.underlying22
  have a4 := Tryz.isAgg22
  have z4 := Tryz.sizeOf22
  simp only [rwCells]
  rw [run_equalIn_struct w 9999 52 _ _ strucR noHeldR]
  simp only [Program.fieldsOf, Tryz.underlying52]
  go_simp
theorem row_neq (x : Ms.Rw) (w : World) : (binOp .neq 52 (.agg (rwCells x).toArray) (.agg (rwCells x).toArray)).run Tryz.prog w = .ok (.bool false) w := by
  rw [run_neq_struct, row_eq]; rfl
theorem infoR5l (x : Ms.Rw) : (Tryz.prog.info? 52).map (·.size) = some (rwCells x).length := infoR5
theorem MsgV.below {w w' : World} {B0 : Nat} {m : Ms.Msg} {v : Value} (h : MsgV w B0 m v) (hb : Below w.heap.size w w') : MsgV w' B0 m v := by
  obtain ⟨A, c, A2, c2, e, h2, h3, h4, h5⟩ := h
  exact ⟨A, c, A2, c2, e, h2.kept (kept_below hb), h3, h4.kept (kept_below hb), h5⟩
theorem drawn_range {w w' : World} {b o : Nat} {cs : List Value} (h : w.rangeAt b o cs) (hd : Drawn w w') : w'.rangeAt b o cs := fun j v hj => (hd.cell _).trans (h j v hj)
set_option maxRecDepth 100000 in
set_option maxHeartbeats 4000000 in
theorem rsame15_eq (B0 B1 : Nat) (m : Ms.Msg) (v1 v2 : Value) (w : World) (h1 : MsgV w B0 m v1) (h2 : MsgV w B1 m v2) (hr : m.rows.length ≤ 1000000000) :
    Calls Tryz.prog 9 #[v1, v2] w fun e w' => e = .returned (.bool true) ∧ Below w.heap.size w w' := by
  obtain ⟨A, c, A2, c2, rfl, ha1, ha2, ha3, ha4⟩ := h1
  obtain ⟨A', c', A2', c2', rfl, hb1, hb2, hb3, hb4⟩ := h2
  have hal := (alloc_b w (.cells (mCells m A c A2 c2) 27)).trans ((alloc_b (w.alloc (.cells (mCells m A c A2 c2) 27)) (.cells (mCells m A' c' A2' c2') 27)).mono (alloc_b w _).size)
  have s1 := str_of (ha1.kept (kept_below hal)) c
  have s2 := str_of (hb1.kept (kept_below hal)) c'
  have hra := ha3.kept (kept_below hal)
  have hrb := hb3.kept (kept_below hal)
  have hk1 : Blk ((w.alloc (.cells (mCells m A c A2 c2) 27)).alloc (.cells (mCells m A' c' A2' c2') 27)) w.heap.size 27 (mCells m A c A2 c2) := (Blk.new w _ _).alloc _
  have hk2 : Blk ((w.alloc (.cells (mCells m A c A2 c2) 27)).alloc (.cells (mCells m A' c' A2' c2') 27)) (w.heap.size + 1) 27 (mCells m A' c' A2' c2') := blk_second _ _ _ _
  obtain ⟨n, hn⟩ : ∃ n, n = m.rows.length := ⟨_, rfl⟩
  have z1 : w.heap.size < ((w.alloc (.cells (mCells m A c A2 c2) 27)).alloc (.cells (mCells m A' c' A2' c2') 27)).heap.size := hk1.lt
  clear ha1 hb1 ha3 hb3
  have hW : ∃ W, W = ((w.alloc (.cells (mCells m A c A2 c2) 27)).alloc (.cells (mCells m A' c' A2' c2') 27)) := ⟨_, rfl⟩
  simp only [mCells] at hal s1 s2 hra hrb hk1 hk2 z1 hW ⊢
  go_enter Tryz.func9, Tryz.ntmps9
  go_wp2_with fail
  obtain ⟨W, hW⟩ := hW
  rw [← hW] at hal hra hrb hk1 hk2 z1 ⊢
  clear s1 s2 hW hn
  have x1 := hk1.cell 15
  have x2 := hk2.cell 15
  simp only [List.getElem?_toArray, List.getElem?_cons_succ, List.getElem?_cons_zero] at x1 x2
  have HX := Lib.hid (And.intro x1 x2)
  have z2 := hk2.lt
  clear hk1 hk2 x1 x2
  go_loopg [5] m.rows.length (fun r i wr => ∃ k : Nat, r + k = m.rows.length ∧ i = .int .i64 k ∧ Drawn W wr)
  case atStart => exact ⟨0, rfl, rfl, Drawn.refl _⟩
  case round =>
    obtain ⟨k, hgk, rfl, hdr⟩ := hrel
    have HGK := Lib.hid hgk
    have y1 := (hdr.cell _).trans HX.out.1
    by_cases hlt : k < m.rows.length
    · clear hgk
      obtain ⟨x, hx⟩ : ∃ x, m.rows[k]? = some x := ⟨_, List.getElem?_eq_getElem hlt⟩
      obtain ⟨b1, o1, rfl, hb1, r1⟩ := hra.at_ hx
      obtain ⟨b2, o2, rfl, hb2, r2⟩ := hrb.at_ hx
      have HR := Lib.hid (And.intro r1 r2)
      clear r1 r2 hx
      go_wp2_with fail
      refine wp_region_class (C := fun w' => Drawn W w') (by kernel_rfl) (by kernel_rfl) (hdr.trans (Drawn.one _)) ?_
      repeat
        (refine wpQuiet_step (fun K hK => ?_)
         rw [if_pos (by rfl)]
         apply Exists.intro
         refine ⟨fun w' hw' => ?_, hK _ ?_⟩
         · have a0 := (hw'.cell _).trans HX.out.1
           have b0 := (hw'.cell _).trans HX.out.2
           have r1 := drawn_range HR.out.1 hw'
           have r2 := drawn_range HR.out.2 hw'
           have p0 := r1 0 _ rfl
           have p1 := r1 1 _ rfl
           have p2 := r1 2 _ rfl
           have p3 := r1 3 _ rfl
           have p4 := r1 4 _ rfl
           have q0 := r2 0 _ rfl
           have q1 := r2 1 _ rfl
           have q2 := r2 2 _ rfl
           have q3 := r2 3 _ rfl
           have q4 := r2 4 _ rfl
           rw [Nat.add_zero] at p0 q0
           clear r1 r2
           have c0 := row_neq x w'
           simp only [rwCells] at c0
           go_simp
           first
             | done
             | rfl
         clear hK K
         go_simp)
      refine wpQuiet_nil ?_
      rintro w4 ⟨q4, rfl⟩
      go_wp2_with fail
      go_roundg (gk - 1)
      case measure => have := HGK.out; omega
      case rel => exact ⟨k + 1, by have := HGK.out; omega, by go_num, ⟨q4, rfl⟩⟩
    · obtain rfl : k = m.rows.length := by omega
      clear hgk
      go_wp2_with fail
      go_ret
      obtain ⟨q, rfl⟩ := hdr
      exact ⟨rfl, hal.trans (Drawn.below ⟨q, rfl⟩ _)⟩
end Go.Proofs.YthhhiiagppckhaaGreatDoor
end
