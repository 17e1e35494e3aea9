/- The walk of msg.Write; conditions: none beyond its hypotheses. -/
import Derived.Test.YthhhiiagppckhaaGreatDoorMgMs11
import Derived.Test.YthhhiiagppckhaaGreatDoorMgGk
import Derived.Lib.ConvBytes
import Derived.Deep.Onto
set_option linter.unusedSimpArgs false
set_option linter.unusedVariables false
section
namespace Go.Proofs.YthhhiiagppckhaaGreatDoor
open Go.RowKit Go.Proofs.U
set_option linter.unusedVariables false

/-- numbers that fit into 64 bits -/
structure Ms.Wf (m : Ms.Msg) : Prop where
  session : m.session < 18446744073709551616
  n : m.n < 18446744073709551616
  version : m.version < 18446744073709551616
  attempt : m.attempt < 18446744073709551616
  stamp : m.stamp < 18446744073709551616
  rows : ∀ x ∈ m.rows, x.version < 18446744073709551616 ∧ x.stamp < 18446744073709551616
theorem check_ok {m : Ms.Msg} (h : Ms.check m = 0) : ∃ k : Nat, m.kind = (k : Int) + 1 ∧ k < 16 ∧ (∀ c ∈ Ms.hasN (k + 1), Ms.bnd c m = true) ∧ (∀ c ∈ Ms.hasN (k + 1), Ms.len c m = true) := by
  by_cases hk : 1 ≤ m.kind ∧ m.kind ≤ 16
  · obtain ⟨k, hkk⟩ : ∃ k : Nat, m.kind = (k : Int) + 1 := ⟨(m.kind - 1).toNat, by omega⟩
    have hk16 : k < 16 := by omega
    rw [check_in hkk hk16] at h
    by_cases h1 : ((Ms.hasN (k + 1)).all fun c => Ms.bnd c m) = false
    · rw [if_pos h1] at h; cases h
    · rw [if_neg h1] at h
      by_cases h2 : ((Ms.hasN (k + 1)).all fun c => Ms.len c m) = false
      · rw [if_pos h2] at h; cases h
      · exact ⟨k, hkk, hk16, List.all_eq_true.1 (by simpa using h1), List.all_eq_true.1 (by simpa using h2)⟩
  · rw [check_no (by omega)] at h; cases h
theorem conv_str (w : World) (d : List UInt8) : ∃ c wb, (convert 9 24 (.string (strOf d))).run Tryz.prog w = .ok (.slice (some ⟨w.heap.size, 0, none⟩) d.length c) wb ∧ Below w.heap.size w wb ∧ BS wb wb.heap.size (some ⟨w.heap.size, 0, none⟩) d.length d ∧ w.heap.size < wb.heap.size := by
  refine ⟨grownCap w (strOf d).size 0 5, Lib.bytesWorld w 5 (strOf d), ?_, ?_, ?_, ?_⟩
  · have := Lib.run_convert_string_bytes (P := Tryz.prog) w 9 24 5 (strOf d) Tryz.underlying9 Tryz.underlying24 Tryz.underlying5
    rw [str_size] at this
    exact this
  · exact ⟨rfl, rfl, rfl, by rw [Lib.bytesWorld_size]; omega, fun k hk => Lib.bytesWorld_at_old w 5 (strOf d) k hk⟩
  · refine ⟨rfl, fun hn => ⟨w.heap.size, 0, rfl, by rw [Lib.bytesWorld_size]; omega, fun j hj => ?_⟩⟩
    rw [Nat.zero_add, Lib.bytesWorld_cell w 5 (strOf d) j (by rw [str_size]; exact hj)]
    simp [strOf, List.getD, List.getElem?_eq_getElem hj, bv]
  · rw [Lib.bytesWorld_size]; omega
theorem PenW.belowK {w w' : World} {g base : Nat} {bs : List UInt8} (h : PenW w g base bs) (hb : Below w.heap.size w w') : PenK w' g base w.heap.size bs := by
  obtain ⟨A, c, h1, h2, h3⟩ := h
  exact ⟨A, c, h1.stay hb, h2.below hb, h3, fun e => by have := (World.ownsRow.lt h2 _ e).2; omega⟩
theorem PnStep.iter {w w' : World} {g base k : Nat} {s : ByteArray} {p : Nat} (h : PnStep w w' g base) (hi : w.heap[k]? = some (.stringIter s p)) (hg : k ≠ g) : w'.heap[k]? = some (.stringIter s p) :=
  (h.block k (Array.getElem?_eq_some_iff.1 hi).1 hg (.inr fun cur fr e => by rw [hi] at e; injection e with e; cases e)).trans hi
theorem flat_take {l : List UInt8} {k : Nat} {c : UInt8} {f : UInt8 → List UInt8} (h : l[k]? = some c) : (l.take (k + 1)).flatMap f = (l.take k).flatMap f ++ f c := by
  rw [List.take_add_one, h, List.flatMap_append]; simp
/-- a message's bytes, if it is right -/
def wrM (m : Ms.Msg) : List UInt8 := if Ms.check m = 0 then Ms.enc m else []
theorem rows_len {bs : List UInt8} {n k2 : Nat} {l : List Ms.Rw} (hb : bs.length ≤ 30000) (hn : n = l.length) (h : ∀ x ∈ l, x.path.length ≤ 96 ∧ (0 ≤ x.kind ∧ x.kind ≤ 2) ∧ (0 ≤ x.size ∧ x.size ≤ 4096)) (hn8 : l.length ≤ 8 := by omega) : (bs ++ (Gr.numB n ++ (l.take k2).flatMap Ms.rowB)).length ≤ 35184372000000 := by
  have h9 := fun n => (Gr.numB_len n).1
  have hrow : ∀ l : List Ms.Rw, (∀ x ∈ l, x.path.length ≤ 96) → (l.flatMap Ms.rowB).length ≤ 141 * l.length := by
    intro l
    induction l with
    | nil => intro _; simp
    | cons x l ih =>
      intro h
      have h1 := h x List.mem_cons_self
      have h2 := ih fun y hy => h y (List.mem_cons_of_mem _ hy)
      have a1 := h9 x.path.length
      have a2 := h9 x.kind.toNat
      have a3 := h9 x.version
      have a4 := h9 x.stamp
      have a5 := h9 x.size.toNat
      simp only [List.flatMap_cons, List.length_append, List.length_cons, Ms.rowB]
      omega
  have h1 := hrow (l.take k2) fun x hx => (h x (List.mem_of_mem_take hx)).1
  have h2 : (l.take k2).length ≤ l.length := by rw [List.length_take]; omega
  have h3 := h9 n
  simp only [List.length_append]
  omega
def WriteRet (w : World) (m : Ms.Msg) (e : Ending) (w' : World) : Prop :=
  ∃ A c, e = .returned (.tuple #[.slice A (wrM m).length c, .int .i64 (Ms.check m : Int)]) ∧ Own w' w.heap.size 5 A (wrM m).length c (wrM m) ∧ Below w.heap.size w w'
/-- the state of a message's writing: the message, the pen -/
structure WS (w0 w : World) (gp it : Nat) (mc : Array Value) (ls : List UInt8) (pos : Nat) (bs : List UInt8) : Prop where
  msg : Blk w w0.heap.size 27 mc
  pen : PenW w gp w0.heap.size bs
  iter : w.heap[it]? = some (.stringIter (strOf ls) pos)
  bel : Below w0.heap.size w0 w
  o1 : w0.heap.size < gp
  o2 : gp < it
theorem WS.below {w0 w w' : World} {gp it : Nat} {mc : Array Value} {ls : List UInt8} {pos : Nat} {bs : List UInt8} (h : WS w0 w gp it mc ls pos bs) (hb : Below w.heap.size w w') : WS w0 w' gp it mc ls pos bs :=
  ⟨h.msg.stay hb, h.pen.below hb, (hb.block it (Array.getElem?_eq_some_iff.1 h.iter).1).trans h.iter, h.bel.trans (hb.mono h.bel.size), h.o1, h.o2⟩
theorem WS.step {w0 w w' : World} {gp it : Nat} {mc : Array Value} {ls : List UInt8} {pos : Nat} {bs bs' : List UInt8} (h : WS w0 w gp it mc ls pos bs) (hp : PnStep w w' gp w0.heap.size) (hpen : PenW w' gp w0.heap.size bs') : WS w0 w' gp it mc ls pos bs' :=
  ⟨hp.blk h.msg (by have := h.o1; omega) (by decide), hpen, hp.iter h.iter (by have := h.o2; omega), hp.below h.bel h.bel.size (Nat.le_of_lt h.o1), h.o1, h.o2⟩
theorem WS.next {w0 w : World} {gp it : Nat} {mc : Array Value} {ls : List UInt8} {pos : Nat} {bs : List UInt8} (h : WS w0 w gp it mc ls pos bs) : WS w0 (w.iterAt it (strOf ls) (pos + 1)) gp it mc ls (pos + 1) bs := by
  obtain ⟨A, c, h1, h2, h3⟩ := h.pen
  refine ⟨blk_iter h.iter h.msg, ⟨A, c, blk_iter h.iter h1, ?_, h3⟩, Lib.iterAt_heap w it (strOf ls) pos (pos + 1) h.iter, below_iter h.bel (by have := h.o1; have := h.o2; omega), h.o1, h.o2⟩
  rcases h2.2 with ⟨hv, h0⟩ | ⟨g, cap, cur, hv, hg, hh, hx⟩
  · exact ⟨h2.1, .inl ⟨hv, h0⟩⟩
  · have hne : g ≠ it := by rintro rfl; rw [h.iter] at hh; cases hh
    exact ⟨h2.1, .inr ⟨g, cap, cur, hv, hg, by rw [Lib.iterAt_other w it g _ _ hne]; exact hh, hx⟩⟩
theorem part_len (c : UInt8) (hc : c ∈ Ms.alpha) (m : Ms.Msg) (hb : Ms.bnd c m = true) (hl : Ms.len c m = true) : (Ms.part c m).length ≤ 2000 := by
  have h9 := fun n => (Gr.numB_len n).1
  simp only [Ms.alpha, List.mem_cons, List.not_mem_nil, or_false] at hc
  rcases hc with rfl | rfl | rfl | rfl | rfl | rfl | rfl | rfl | rfl | rfl | rfl | rfl | rfl | rfl | rfl
  case inr.inr.inr.inr.inl =>
    have : m.path.length ≤ 96 := of_decide_eq_true hl
    show (Gr.numB m.path.length ++ m.path).length ≤ 2000
    rw [List.length_append]; have := h9 m.path.length; omega
  case inr.inr.inr.inr.inr.inr.inr.inr.inr.inr.inr.inr.inr.inl =>
    have : m.data.length ≤ 200 := of_decide_eq_true hl
    show (Gr.numB m.data.length ++ m.data).length ≤ 2000
    rw [List.length_append]; have := h9 m.data.length; omega
  case inr.inr.inr.inr.inr.inr.inr.inr.inr.inr.inr.inr.inr.inr =>
    have hl' : (decide (m.rows.length ≤ 8) && m.rows.all fun x => decide (x.path.length ≤ 96)) = true := hl
    rw [Bool.and_eq_true, decide_eq_true_eq, List.all_eq_true] at hl'
    obtain ⟨h8, hp⟩ := hl'
    show (Gr.numB m.rows.length ++ m.rows.flatMap Ms.rowB).length ≤ 2000
    have hrow : ∀ l : List Ms.Rw, (∀ x ∈ l, decide (x.path.length ≤ 96) = true) → (l.flatMap Ms.rowB).length ≤ 141 * l.length := by
      intro l
      induction l with
      | nil => intro _; simp
      | cons x l ih =>
        intro h
        have h1 := of_decide_eq_true (h x List.mem_cons_self)
        have h2 := ih fun y hy => h y (List.mem_cons_of_mem _ hy)
        have a1 := h9 x.path.length
        have a2 := h9 x.kind.toNat
        have a3 := h9 x.version
        have a4 := h9 x.stamp
        have a5 := h9 x.size.toNat
        simp only [List.flatMap_cons, List.length_append, List.length_cons, Ms.rowB]
        omega
    rw [List.length_append]; have := h9 m.rows.length; have := hrow _ hp; omega
  all_goals exact Nat.le_trans (h9 _) (by decide)
theorem parts_len (l : List UInt8) (m : Ms.Msg) (h : ∀ c ∈ l, (Ms.part c m).length ≤ 2000) : (l.flatMap fun c => Ms.part c m).length ≤ 2000 * l.length := by
  induction l with
  | nil => simp
  | cons c l ih =>
    have h1 := h c List.mem_cons_self
    have h2 := ih fun y hy => h y (List.mem_cons_of_mem _ hy)
    simp only [List.flatMap_cons, List.length_append, List.length_cons]; omega
end Go.Proofs.YthhhiiagppckhaaGreatDoor
end
