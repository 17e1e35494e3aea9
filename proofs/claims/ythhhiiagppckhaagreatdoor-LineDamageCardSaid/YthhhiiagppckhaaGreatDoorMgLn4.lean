/- The walks of a line's other small functions; conditions: none beyond their hypotheses. Rows of messages in memory: read, and built by append; conditions: none beyond their hypotheses. Plain laws of a line: messages' frames, one behind the other, come out as they were; conditions: none beyond their hypotheses. The walk of Feed of an open line, of payloads that are messages; conditions: none beyond its hypotheses. -/
import Derived.Test.YthhhiiagppckhaaGreatDoorMgLn3
import Derived.Test.YthhhiiagppckhaaGreatDoorMgMs12
import Derived.Great.BuildSlice
import Derived.Test.YthhhiiagppckhaaGreatDoorMgDfr
import Derived.Test.YthhhiiagppckhaaGreatDoorMgMp
set_option linter.unusedSimpArgs false
set_option linter.unusedVariables false
section
namespace Go.Proofs.YthhhiiagppckhaaGreatDoor
open Go.RowKit Go.Proofs.U Go.Proofs.Bp
set_option linter.unusedVariables false

/-- a line that is closed: its error -/
def shutL (tl : List UInt8) (v : Value) : List Value := tl.map bv ++ [.int .i64 0, .int .i64 0, .bool true, v]
def Shl (w : World) (g : Nat) (v : Value) : Prop := ∃ tl : List UInt8, tl.length = 1410 ∧ Blk w g 61 (shutL tl v).toArray
theorem Shl.lt {w : World} {g : Nat} {v : Value} (h : Shl w g v) : g < w.heap.size := by obtain ⟨tl, _, hb⟩ := h; exact hb.lt
theorem Shl.shut {w : World} {g : Nat} {v : Value} (h : Shl w g v) : w.cell? ⟨g, 1412, none⟩ = some (.bool true) := by
  obtain ⟨tl, hl, hb⟩ := h
  rw [hb.cell, List.getElem?_toArray]
  unfold shutL; rw [List.getElem?_append_right (by simp; omega)]; simp [hl]
theorem Shl.err {w : World} {g : Nat} {v : Value} (h : Shl w g v) : w.cell? ⟨g, 1413, none⟩ = some v := by
  obtain ⟨tl, hl, hb⟩ := h
  rw [hb.cell, List.getElem?_toArray]
  unfold shutL; rw [List.getElem?_append_right (by simp; omega)]; simp [hl]
theorem Shl.free {w : World} {g : Nat} {v : Value} (h : Shl w g v) (i : Nat) : w.frozen? ⟨g, i, none⟩ = false := by
  obtain ⟨tl, _, hb⟩ := h; exact hb.frozen i
theorem Shl.below {w w' : World} {g : Nat} {v : Value} (h : Shl w g v) (hb : Below w.heap.size w w') : Shl w' g v := by
  obtain ⟨tl, hl, hk⟩ := h; exact ⟨tl, hl, hk.stay hb⟩
theorem Shl.put {w : World} {g : Nat} {v : Value} (h : Shl w g v) (v' : Value) : Shl (w.setCell ⟨g, 1413, none⟩ v') g v' := by
  obtain ⟨tl, hl, hk⟩ := h
  refine ⟨tl, hl, ?_⟩
  have := hk.set_ 1413 v'
  have he : (shutL tl v').toArray = (shutL tl v).toArray.setIfInBounds 1413 v' := by
    unfold shutL
    rw [List.setIfInBounds_toArray, List.set_append_right _ _ (by simp; omega)]
    simp [hl]
  rw [he]; exact this
theorem Ink.shl {w : World} {g : Nat} (h : Ink w g [] 0) : Shl (w.setCell ⟨g, 1412, none⟩ (.bool true)) g .nilIface := by
  obtain ⟨tl, hl, hk⟩ := h
  refine ⟨tl, by simpa using hl, ?_⟩
  have := hk.set_ 1412 (.bool true)
  have hl' : tl.length = 1410 := by simpa using hl
  have he : (shutL tl .nilIface).toArray = (inkL [] tl 0).toArray.setIfInBounds 1412 (.bool true) := by
    unfold shutL inkL
    rw [List.setIfInBounds_toArray, List.set_append_right _ _ (by simp; omega)]
    simp [hl']
  rw [he]; exact this
set_option maxHeartbeats 400000 in
theorem shut_any (g : Nat) (P : List UInt8) (e : Int) (w : World) (h : Ink w g P e) : Calls Tryz.prog 21 #[.pointer (some ⟨g, 0, none⟩)] w fun en w' => en = .returned (.tuple #[]) ∧ Shl w' g .nilIface ∧ w.grownBy w' (some g) := by
  have hr := reset_any g P e w h
  go_enter Tryz.func21, Tryz.ntmps21
  go_wp2_with fail
  refine hr.mono ?_
  rintro en w1 ⟨rfl, hk, hg⟩
  have f2 := hk.free 1412
  have c2 := hk.shut
  go_wp2_with fail
  go_end0
  exact ⟨rfl, hk.shl, only_at hg⟩
theorem closedShut_any (g : Nat) (v : Value) (w : World) (h : Shl w g v) : Calls Tryz.prog 12 #[.pointer (some ⟨g, 0, none⟩)] w fun en w' => en = .returned (.bool true) ∧ w' = w := by
  have c1 := h.shut
  have hl := h.lt
  go_enter Tryz.func12, Tryz.ntmps12
  go_wp2_with fail
  go_ret
  exact ⟨rfl, rfl⟩
theorem refuse_nil (o : List UInt8) (w : World) : Calls Tryz.prog 18 #[.pointer none, .string (strOf o)] w (ErRet w (.one o [] (.code 1))) := by
  have h := fun w => told_code (N := fun _ => True) 1 (by decide) o w (fun _ _ => trivial)
  go_enter Tryz.func18, Tryz.ntmps18
  go_wp2_with fail
  refine (h _).mono ?_
  rintro e w1 ⟨v, rfl, hv, hb⟩
  go_wp2_with fail
  go_ret
  exact ⟨v, rfl, hv, hb⟩
/-- nothing, and an error -/
def NoneRet (w : World) (t : Er) (e : Ending) (w' : World) : Prop := ∃ v, e = .returned (.tuple #[.slice none 0 0, v]) ∧ ErV w' t v ∧ Below w.heap.size w w'
theorem feedNone_any (x : Value) (w : World) : Calls Tryz.prog 8 #[.pointer none, x] w (NoneRet w (.one [102, 101, 101, 100] [] (.code 1))) := by
  have h := fun w => refuse_nil [102, 101, 101, 100] w
  go_enter Tryz.func8, Tryz.ntmps8
  go_wp2_with fail
  go_step3
  go_wp2_with fail
  refine (h _).mono ?_
  rintro e w1 ⟨v, rfl, hv, hb⟩
  obtain ⟨T, x, rfl⟩ := ErVn.iface hv (by simp)
  go_wp2_with fail
  try rw [Exit.noGoto_ret]
  go_ret2
  exact ⟨_, rfl, hv, hb⟩
theorem sayNone_any (m : Ms.Msg) (A : Option Addr) (c : Nat) (A2 : Option Addr) (c2 : Nat) (w : World) : Calls Tryz.prog 15 #[.pointer none, .agg (mCells m A c A2 c2)] w (NoneRet w (.one [115, 97, 121] [] (.code 1))) := by
  have h := fun w => refuse_nil [115, 97, 121] w
  have hal := alloc_b w (.cells (mCells m A c A2 c2) 27)
  simp only [mCells] at hal ⊢
  go_enter Tryz.func15, Tryz.ntmps15
  go_wp2_with fail
  refine (h _).mono ?_
  rintro e w1 ⟨v, rfl, hv, hb⟩
  obtain ⟨T, x, rfl⟩ := ErVn.iface hv (by simp)
  go_wp2_with fail
  try rw [Exit.noGoto_ret]
  go_ret2
  exact ⟨_, rfl, hv, hal.trans (hb.mono hal.size)⟩
end Go.Proofs.YthhhiiagppckhaaGreatDoor
end

section
namespace Go.Proofs.YthhhiiagppckhaaGreatDoor
open Go.RowKit Go.Proofs.U
set_option linter.unusedVariables false

/-- a message, and where its bytes and rows lie -/
structure Mp where
  m : Ms.Msg
  A : Option Addr
  c : Nat
  A2 : Option Addr
  c2 : Nat
def Mp.v (p : Mp) : Value := .agg (mCells p.m p.A p.c p.A2 p.c2)
def Mp.cells (p : Mp) : List Value := (mCells p.m p.A p.c p.A2 p.c2).toList
theorem Mp.cells_len (p : Mp) : p.cells.length = 16 := rfl
theorem Mp.cells_one (p : Mp) : ∀ u ∈ p.cells, u.oneCell' = true := by
  intro u hu
  simp only [Mp.cells, mCells, List.mem_cons, List.not_mem_nil, or_false] at hu
  rcases hu with rfl | rfl | rfl | rfl | rfl | rfl | rfl | rfl | rfl | rfl | rfl | rfl | rfl | rfl | rfl | rfl <;> rfl
theorem MsgV.mp {w : World} {B0 : Nat} {m : Ms.Msg} {v : Value} (h : MsgV w B0 m v) : ∃ p : Mp, p.m = m ∧ v = p.v ∧ MsgV w B0 p.m p.v := by
  obtain ⟨A, c, A2, c2, rfl, _⟩ := id h
  exact ⟨⟨m, A, c, A2, c2⟩, rfl, rfl, h⟩
def mps (ps : List Mp) : List Value := ps.flatMap Mp.cells
theorem mps_append (ps qs : List Mp) : mps (ps ++ qs) = mps ps ++ mps qs := by unfold mps; rw [List.flatMap_append]
theorem mps_one (p : Mp) : mps [p] = p.cells := by unfold mps; simp
theorem mps_len (ps : List Mp) : (mps ps).length = ps.length * 16 := by
  induction ps with
  | nil => rfl
  | cons x l ih => unfold mps at ih ⊢; rw [List.flatMap_cons, List.length_append, ih, Mp.cells_len, List.length_cons]; omega
theorem mps_cells (ps : List Mp) : ∀ u ∈ mps ps, u.oneCell' = true := by
  intro u hu
  obtain ⟨x, _, hx⟩ := List.mem_flatMap.1 hu
  exact x.cells_one u hx
theorem mps_at : ∀ (l : List Mp) (k : Nat) (x : Mp), l[k]? = some x → ∀ (j : Nat) v, x.cells[j]? = some v → (mps l)[k * 16 + j]? = some v
  | [], k, x, h, j, v, hv => by simp at h
  | y :: l, 0, x, h, j, v, hv => by
    simp at h; subst h
    unfold mps
    rw [List.flatMap_cons, Nat.zero_mul, Nat.zero_add, List.getElem?_append_left (List.getElem?_eq_some_iff.1 hv).1]; exact hv
  | y :: l, k + 1, x, h, j, v, hv => by
    have ih := mps_at l k x (by simpa using h) j v hv
    unfold mps at ih ⊢
    rw [List.flatMap_cons, List.getElem?_append_right (by rw [Mp.cells_len]; omega)]
    have e : (k + 1) * 16 + j - y.cells.length = k * 16 + j := by rw [Mp.cells_len]; omega
    rw [e]; exact ih
/-- messages behind a slice value -/
def MS (w : World) (B : Nat) (A : Option Addr) (n : Nat) (ps : List Mp) : Prop :=
  ps.length = n ∧ (0 < n → ∃ b off, A = some ⟨b, off, none⟩ ∧ b < B ∧ ∀ (j : Nat) v, (mps ps)[j]? = some v → w.cell? ⟨b, off + j, none⟩ = some v)
theorem MS.nil (w : World) (B : Nat) (A : Option Addr) : MS w B A 0 [] := ⟨rfl, fun h => absurd h (by omega)⟩
theorem MS.at_ {w : World} {B n k : Nat} {A : Option Addr} {ps : List Mp} (h : MS w B A n ps) (hk : k < n) :
    ∃ b off p, A = some ⟨b, off, none⟩ ∧ b < B ∧ ps[k]? = some p ∧ w.rangeAt b (off + k * 16) p.cells := by
  obtain ⟨b, off, rfl, hlt, hc⟩ := h.2 (by omega)
  have hl := h.1
  refine ⟨b, off, ps[k], rfl, hlt, by simp, fun j v hj => ?_⟩
  have := hc (k * 16 + j) v (mps_at ps k ps[k] (by simp) j v hj)
  rw [← Nat.add_assoc] at this
  exact this
theorem MS.keep {w w' : World} {B n : Nat} {A : Option Addr} {ps : List Mp} (h : MS w B A n ps) (hk : ∀ k, k < B → w'.heap[k]? = w.heap[k]?) : MS w' B A n ps :=
  ⟨h.1, fun hn => by
    obtain ⟨b, off, e, hb, hc⟩ := h.2 hn
    exact ⟨b, off, e, hb, fun j v hj => (World.cell?_of_block (hk b hb)).trans (hc j v hj)⟩⟩
theorem MS.below {w w' : World} {B n : Nat} {A : Option Addr} {ps : List Mp} (h : MS w B A n ps) (hb : Below B w w') : MS w' B A n ps := h.keep fun k hk => hb.block k hk
theorem MS.more {w : World} {B B' n : Nat} {A : Option Addr} {ps : List Mp} (h : MS w B A n ps) (hB : B ≤ B') : MS w B' A n ps :=
  ⟨h.1, fun hn => by
    obtain ⟨b, off, e, hb, hc⟩ := h.2 hn
    exact ⟨b, off, e, by omega, hc⟩⟩
/-- messages that the call made -/
def MO (w : World) (base : Nat) (A : Option Addr) (n c : Nat) (ps : List Mp) : Prop := w.ownsRow base 27 16 (.slice A n c) n (mps ps) ∧ ps.length = n
theorem MO.nil (w : World) (base : Nat) : MO w base none 0 0 [] := ⟨World.ownsRow_nil w base _ 16, rfl⟩
theorem MO.ms {w : World} {base n c : Nat} {A : Option Addr} {ps : List Mp} (h : MO w base A n c ps) : MS w w.heap.size A n ps := by
  refine ⟨h.2, fun hn => ?_⟩
  obtain ⟨g, cap, hv, _, hlt⟩ := World.ownsRow.form h.1 hn
  have hA : A = some ⟨g, 0, none⟩ := by injection hv
  subst hA
  refine ⟨g, 0, rfl, hlt, fun j v hj => ?_⟩
  have := World.ownsRow.cells (g := g) h.1 rfl j v hj
  rw [addr_add] at this
  exact this
theorem MO.below {w w' : World} {base n c : Nat} {A : Option Addr} {ps : List Mp} (h : MO w base A n c ps) (hb : Below w.heap.size w w') : MO w' base A n c ps :=
  ⟨World.ownsRow.kept (row := none) h.1 ⟨hb.os, hb.tape, hb.output, hb.size, fun k hk _ => hb.block k hk⟩ (by
    cases A with
    | none => exact .inl rfl
    | some a => exact .inr (by simp [Value.ownBlock])), h.2⟩
theorem MO.only {w w' : World} {base n c : Nat} {A : Option Addr} {ps : List Mp} {row : Option Nat} (h : MO w base A n c ps) (hg : w.grownBy w' row) (hr : ∀ k, row = some k → k < base) : MO w' base A n c ps := by
  refine ⟨h.1.kept hg ?_, h.2⟩
  cases hA : (Value.slice A n c).ownBlock with
  | none => exact .inl rfl
  | some k => exact .inr fun e => by have := hr k e.symm; have := (h.1.lt k hA).1; omega
theorem MO.lo {w : World} {base base' n c : Nat} {A : Option Addr} {ps : List Mp} (h : MO w base A n c ps) (hb : base' ≤ base) : MO w base' A n c ps := by
  refine ⟨⟨h.1.1, ?_⟩, h.2⟩
  rcases h.1.2 with h | ⟨g, cap, cur, hv, hg, r⟩
  · exact .inl h
  · exact .inr ⟨g, cap, cur, hv, by omega, r⟩
theorem MO.le {w : World} {base n c : Nat} {A : Option Addr} {ps : List Mp} (h : MO w base A n c ps) : n ≤ c := by
  rcases h.1.2 with ⟨hv, h0⟩ | ⟨g, cap, cur, hv, _, _, hnc, _⟩
  · omega
  · injection hv with _ _ hcc; omega
theorem MO.drew {w : World} {base n c : Nat} {A : Option Addr} {ps : List Mp} (h : MO w base A n c ps) : MO w.drew base A n c ps := h
theorem MO.drewN {w : World} {base n c : Nat} {A : Option Addr} {ps : List Mp} (h : MO w base A n c ps) (q : Nat) : MO (w.drewN q) base A n c ps := h
/-- a row written: bytes and rows of other types are as they were -/
theorem row_kept {w w' : World} {base size n c : Nat} {e : TypeId} {A : Option Addr} {vs : List Value} (h : w.ownsRow base e size (.slice A n c) n vs) (hg : w.grownBy w' (Value.slice A n c).ownBlock) (h1 : e ≠ 5) (h2 : e ≠ 52) : Kept 0 w w' := by
  rcases h.2 with ⟨hv, _⟩ | ⟨g, cap, cur, hv, _, hh, _⟩
  · rw [hv] at hg
    exact ⟨hg.size, fun k hk _ => hg.block k hk (by simp [Value.ownBlock])⟩
  · rw [hv] at hg
    have hg' : w.grownBy w' (some g) := hg
    exact kept_grown hg' (Nat.zero_le _) hh h1 h2
theorem MsgV.kept {w w' : World} {B0 : Nat} {m : Ms.Msg} {v : Value} (h : MsgV w B0 m v) (hk : Kept B0 w w') : MsgV w' B0 m v := by
  obtain ⟨A, c, A2, c2, e, h2, h3, h4, h5⟩ := h
  exact ⟨A, c, A2, c2, e, h2.kept hk, h3, h4.kept hk, h5⟩

/-- append of whole elements, of any slice, to a row of the call's own -/
theorem run_appG {P : Program} {w : World} {t e : TypeId} {z : Value} {s by_ : Nat} (hs0 : 0 < s) (ht : P.underlying t = some (.slice e)) (hI : (P.info? e).map (fun i => (i.zero, i.size, i.bytes)) = some (some z, s, by_)) (hz1 : z.cells.size = s) (ty : TypeId) (base : Nat)
    (A : Option Addr) (n c : Nat) (vs : List Value) (hown : w.ownsRow base e s (.slice A n c) n vs)
    (A' : Option Addr) (m c' : Nat) (vs' : List Value) (hl : vs'.length = m * s) (hr : 0 < m → ∃ b off, A' = some ⟨b, off, none⟩ ∧ ∀ (j : Nat) u, vs'[j]? = some u → w.cell? ⟨b, off + j, none⟩ = some u) (h1 : ∀ u ∈ vs', u.oneCell' = true) (hlen : (n + m) * by_ ≤ 140737488355328) (hmax : n + m ≤ maxLen) (hbase : base ≤ w.heap.size) :
    ∃ A2 c2 w2, (Builtin.append_ #[t, t] ty #[.slice A n c, .slice A' m c']).run P w = .ok (.slice A2 (n + m) c2) w2 ∧ w2.ownsRow base e s (.slice A2 (n + m) c2) (n + m) (vs ++ vs') ∧
      w.grownBy w2 (Value.slice A n c).ownBlock ∧ ((Value.slice A2 (n + m) c2).ownBlock = (Value.slice A n c).ownBlock ∨ (Value.slice A2 (n + m) c2).ownBlock = some w.heap.size) := by
  by_cases hm : m = 0
  · subst hm
    obtain rfl : vs' = [] := List.eq_nil_of_length_eq_zero (by omega)
    cases A' with
    | none =>
      obtain ⟨i, hi, hz, hs, hb⟩ := info_parts hI
      exact ⟨A, c, w, run_append_none base t ty e i s ht hi _ n _ hown c', by simpa using hown, World.grownBy.refl w _, .inl rfl⟩
    | some ad => exact run_appS hs0 ht hI hz1 ty base A n c vs hown ad 0 c' [] (by simp) (fun j u hu => by simp at hu) h1 hlen hmax hbase
  · obtain ⟨b, off, rfl, hc⟩ := hr (by omega)
    exact run_appS hs0 ht hI hz1 ty base A n c vs hown ⟨b, off, none⟩ m c' vs' hl (fun j u hu => by rw [addr_add]; exact hc j u hu) h1 hlen hmax hbase
theorem wpList_appG {P : Program} {w : World} {t e : TypeId} {z : Value} {s by_ : Nat} (hs0 : 0 < s) (ht : P.underlying t = some (.slice e)) (hI : (P.info? e).map (fun i => (i.zero, i.size, i.bytes)) = some (some z, s, by_)) (hz1 : z.cells.size = s)
    {ops : Array Oper} {rest : List Oper} {o : Oper} {a : Act} {Q : Exit → Act → World → Prop} (hgd : o.guard = none) (x y : Operand)
    (ho : o.op = .call { callee := .builtin .append, args := #[x, y], argTypes := #[t, t] })
    (base : Nat) (A : Option Addr) (n c : Nat) (vs : List Value) (hs : a.eval x = .slice A n c) (hown : w.ownsRow base e s (.slice A n c) n vs)
    (A' : Option Addr) (m c' : Nat) (vs' : List Value) (hx : a.eval y = .slice A' m c') (hl : vs'.length = m * s) (hr : 0 < m → ∃ b off, A' = some ⟨b, off, none⟩ ∧ ∀ (j : Nat) u, vs'[j]? = some u → w.cell? ⟨b, off + j, none⟩ = some u) (h1 : ∀ u ∈ vs', u.oneCell' = true) (hlen : (n + m) * by_ ≤ 140737488355328) (hmax : n + m ≤ maxLen) (hbase : base ≤ w.heap.size)
    (h : ∀ A2 c2 w2, w2.ownsRow base e s (.slice A2 (n + m) c2) (n + m) (vs ++ vs') → w.grownBy w2 (Value.slice A n c).ownBlock → ((Value.slice A2 (n + m) c2).ownBlock = (Value.slice A n c).ownBlock ∨ (Value.slice A2 (n + m) c2).ownBlock = some w.heap.size) →
      wpList P ops Q rest (a.put o.dst (.slice A2 (n + m) c2)) w2) : wpList P ops Q (o :: rest) a w :=
  wpList_plain hgd fun _ hK => by
    obtain ⟨A2, c2, w2, hrun, h2, h3, h4⟩ := run_appG (w := w) hs0 ht hI hz1 o.type base A n c vs hown A' m c' vs' hl hr h1 hlen hmax hbase
    unfold Oper.wp execOp
    simp only [ho, resolve, invoke, builtin, Sem.run_bind, Sem.run_pure, Result.andThen_ok, List.map_toArray, List.map_cons, List.map_nil, hs, hx, hrun]
    exact hK _ _ (h A2 c2 w2 h2 h3 h4)
theorem infoMsg : (Tryz.prog.info? 27).map (fun i => (i.zero, i.size, i.bytes)) = some (some (.agg (mCells Ms.zero none 0 none 0)), 16, 168) := by kernel_rfl
theorem Mp.v_eq (p : Mp) : p.v = .agg p.cells.toArray := rfl
theorem Mp.size16 (p : Mp) : p.cells.toArray.size = 16 := rfl
theorem Mp.all_one (p : Mp) : p.cells.toArray.all (·.oneCell') = true := mCells_one p.m p.A p.c p.A2 p.c2
theorem fill_msg (p : Mp) : Instr.fill (fun i => some (i * 16, 16)) ((Array.range (1 * 16)).map ((Value.agg (mCells Ms.zero none 0 none 0)).cells[· % (Value.agg (mCells Ms.zero none 0 none 0)).cells.size]!)) [(0, .agg p.cells.toArray)] = some p.cells.toArray := by
  obtain ⟨m, A, c, A2, c2⟩ := p
  kernel_rfl
/-- a slice of one message -/
theorem wpList_buildM {P : Program} {w : World} {t e : TypeId} {by_ : Nat} {ops : Array Oper} {rest : List Oper} {o : Oper} {a : Act} {Q : Exit → Act → World → Prop} (hg : o.guard = none) (ht : P.underlying t = some (.slice e))
    (hI : (P.info? e).map (fun i => (i.zero, i.size, i.bytes)) = some (some (.agg (mCells Ms.zero none 0 none 0)), 16, by_)) (x : Operand) (ho : o.op = .buildSlice t 1 #[(0, x)]) (p : Mp) (hx : a.eval x = .agg p.cells.toArray)
    (h : wpList P ops Q rest (a.put o.dst (.slice (some ⟨w.heap.size, 0, none⟩) 1 1)) (w.alloc (.cells p.cells.toArray e))) : wpList P ops Q (o :: rest) a w := by
  obtain ⟨i, hi, hz, hs, hb⟩ := info_parts hI
  refine wpList_buildSlice hg t e 1 _ ho p.cells.toArray i _ ht hi hz (by rw [hs]; decide) (by rw [hs]; decide) ?_ h
  rw [hs]
  simp only [List.map_toArray, List.map_cons, List.map_nil, hx]
  exact fill_msg p
end Go.Proofs.YthhhiiagppckhaaGreatDoor
end

section
namespace Go.Proofs.YthhhiiagppckhaaGreatDoor
open Go.RowKit Go.Proofs.U
set_option linter.unusedVariables false

/-- frames, one behind the other -/
def frames (ps : List (List UInt8)) : List UInt8 := ps.flatMap fun p => (fwrap p).1
theorem frames_cons (p : List UInt8) (ps : List (List UInt8)) : frames (p :: ps) = (fwrap p).1 ++ frames ps := by unfold frames; rw [List.flatMap_cons]
theorem frames_append (ps qs : List (List UInt8)) : frames (ps ++ qs) = frames ps ++ frames qs := by unfold frames; rw [List.flatMap_append]
theorem goes_frames {a : List UInt8} {o : List (List UInt8)} {r : List UInt8} {e : Int} (h : Goes a o r e) : ∀ (ps : List (List UInt8)) (rest : List UInt8), (∀ p ∈ ps, p.length ≤ 1400) → a ++ rest = frames ps → e = 0 ∧ ∃ ps2, ps = o ++ ps2 ∧ r ++ rest = frames ps2 := by
  induction h with
  | stop h => intro ps rest _ ha; exact ⟨rfl, ps, rfl, ha⟩
  | @bad a e h1 h2 h3 =>
    intro ps rest hp ha
    exfalso
    have hnp : ¬ Part a := fun h => h3 (h1.symm.trans h)
    have hm := ftake_more a rest hnp
    rw [ha] at hm
    cases ps with
    | nil =>
      have ha' : a = [] := (List.append_eq_nil_iff.1 ha).1
      subst ha'
      exact hnp part_nil
    | cons p ps =>
      rw [frames_cons, ftake_wrap p _ (hp p List.mem_cons_self)] at hm
      rw [← hm] at h1
      exact h2 h1.symm
  | @more a p n out r e h1 _ ih =>
    intro ps rest hp ha
    have hnp : ¬ Part a := by unfold Part; rw [h1]; simp
    have hm := ftake_more a rest hnp
    cases ps with
    | nil =>
      have ha' : a = [] := (List.append_eq_nil_iff.1 ha).1
      subst ha'
      exact absurd part_nil hnp
    | cons q ps =>
      rw [frames_cons] at ha
      have hq := hp q List.mem_cons_self
      rw [ha, ftake_wrap q _ hq, h1] at hm
      simp only [Prod.mk.injEq, and_true] at hm
      obtain ⟨rfl, hn⟩ := hm
      have hpos := ftake_pos h1
      have hd : a.drop n ++ rest = frames ps := by
        have := congrArg (List.drop n) ha
        rw [List.drop_append_of_le_length hpos.2.1] at this
        rw [this, ← hn, ← fwrap_len q hq, List.drop_left]
      obtain ⟨rfl, ps2, rfl, h⟩ := ih ps rest (fun p h => hp p (List.mem_cons_of_mem _ h)) hd
      exact ⟨rfl, ps2, rfl, h⟩
theorem part_frames {ps : List (List UInt8)} {r : List UInt8} (hp : ∀ p ∈ ps, p.length ≤ 1400) (h : r = frames ps) (hr : Part r) : ps = [] ∧ r = [] := by
  cases ps with
  | nil => exact ⟨rfl, h⟩
  | cons q ps =>
    exfalso
    unfold Part at hr
    rw [h, frames_cons, ftake_wrap q _ (hp q List.mem_cons_self)] at hr
    simp at hr
/-- a frame in which bits were turned, behind a right one -/
theorem goes_burst (p q rest : List UInt8) (first : Nat) (mask : BitVec 32) (hp : p.length ≤ 1400) (hq : q.length ≤ 1400) (hf : first + 32 ≤ 8 * (q.length + 10)) (hm : mask ≠ 0#32) :
    Goes ((fwrap p).1 ++ (fl (fwrap q).1 first mask 32 ++ rest)) [p] [] 14 := by
  refine .more (ftake_wrap p _ hp) ?_
  rw [← fwrap_len p hp, List.drop_left]
  refine .bad ?_ (by decide) (by decide)
  rw [ftake_burst q rest first mask hq hf hm]
end Go.Proofs.YthhhiiagppckhaaGreatDoor
end

section
namespace Go.Proofs.YthhhiiagppckhaaGreatDoor
open Go.RowKit Go.Proofs.U Go.Proofs.Bp
set_option linter.unusedVariables false

theorem new_below {w w' : World} {o : Obj} (hg : (w.alloc o).grownBy w' (some w.heap.size)) : Below w.heap.size w w' := (alloc_b w o).grown hg (alloc_b w o).size (fun j hj => by injection hj with hj; omega)
theorem mnew_cells (w : World) (t : TypeId) (p : Mp) : ∀ (j : Nat) u, p.cells[j]? = some u → (w.alloc (.cells p.cells.toArray t)).cell? ⟨w.heap.size, 0 + j, none⟩ = some u := fun j u hu => by rw [Nat.zero_add, (Blk.new w t _).cell, List.getElem?_toArray]; exact hu
theorem Ink.kept0 {w w' : World} {g : Nat} {P : List UInt8} {e : Int} (h : Ink w g P e) (hg : w.grownBy w' (some g)) : Kept 0 w w' := by
  obtain ⟨tl, _, hb⟩ := h
  exact kept_grown hg (Nat.zero_le _) hb (by decide) (by decide)
theorem Shl.kept0 {w w' : World} {g : Nat} {v : Value} (h : Shl w g v) (hg : w.grownBy w' (some g)) : Kept 0 w w' := by
  obtain ⟨tl, _, hb⟩ := h
  exact kept_grown hg (Nat.zero_le _) hb (by decide) (by decide)
def rdM (p : List UInt8) : Ms.Msg := (Ms.readP p).1
/-- what a feed hands back -/
def FedRet (w : World) (g : Nat) (o : List (List UInt8)) (r : List UInt8) (e : Int) (en : Ending) (w' : World) : Prop :=
  ∃ A c ps v, en = .returned (.tuple #[.slice A ps.length c, v]) ∧ MO w' w.heap.size A ps.length c ps ∧ ps.map Mp.m = o.map rdM ∧ (∀ p ∈ ps, MsgV w' 0 p.m p.v) ∧ w.grownBy w' (some g) ∧
    (e = 0 → v = .nilIface ∧ Ink w' g r 0) ∧ (e ≠ 0 → ErVn (fun b => w.heap.size ≤ b) w' (.one [102, 101, 101, 100] [] (.code e)) v ∧ Shl w' g v)
/-- what holds at a round's head -/
def FedAt (w1 : World) (o : List (List UInt8)) (rem : Nat) (out idx : Value) (wr : World) : Prop :=
  ∃ (k : Nat) (A : Option Addr) (c : Nat) (ps : List Mp), rem + k = o.length ∧ idx = .int .i64 (k : Int) ∧ out = .slice A k c ∧ MO wr w1.heap.size A k c ps ∧ ps.map Mp.m = (o.take k).map rdM ∧ (∀ p ∈ ps, MsgV wr 0 p.m p.v) ∧ Below w1.heap.size w1 wr
theorem goes_part {a : List UInt8} {o : List (List UInt8)} {r : List UInt8} {e : Int} (h : Goes a o r e) : (∀ p ∈ o, p.length ≤ a.length) ∧ 10 * o.length ≤ a.length := by
  induction h with
  | stop h => exact ⟨by simp, by simp⟩
  | bad h1 h2 h3 => exact ⟨by simp, by simp⟩
  | @more a p n out r e h1 _ ih =>
    have hp := ftake_pos h1
    have hl : (a.drop n).length = a.length - n := by simp
    rw [hl] at ih
    refine ⟨fun q hq => ?_, by rw [List.length_cons]; omega⟩
    rcases List.mem_cons.1 hq with rfl | hq
    · omega
    · have := ih.1 q hq; omega
theorem goes_code {a : List UInt8} {o : List (List UInt8)} {r : List UInt8} {e : Int} (h : Goes a o r e) : e ≠ 0 → r = [] := by
  induction h with
  | stop h => intro h; exact absurd rfl h
  | bad h1 h2 h3 => intro _; rfl
  | more h1 _ ih => exact ih
set_option maxRecDepth 100000 in
set_option maxHeartbeats 4000000 in
theorem lfeed_any (g : Nat) (P : List UInt8) (w : World) (hk : Ink w g P 0) (hP : Part P) (A : Option Addr) (n c : Nat) (bs : List UInt8) (hb : BS w w.heap.size A n bs) (ho : Off g A n) (hn : n ≤ 1099511627776) (hc : n ≤ c) (hT : Nib w)
    (o : List (List UInt8)) (r : List UInt8) (e : Int) (hG : Goes (P ++ bs) o r e) (hok : ∀ p ∈ o, (Ms.readP p).2 = 0) :
    Calls Tryz.prog 8 #[.pointer (some ⟨g, 0, none⟩), .slice A n c] w (FedRet w g o r e) := by
  have hfd := feed_any g P w hk hP A n c bs hb ho hn hc hT
  have hpt := goes_part hG
  have hPl := part_lt P hP
  have hbl := hb.1
  have hol : o.length ≤ 109951162919 := by have := hpt.2; simp at this; omega
  have HG := Lib.hid (And.intro hG (And.intro hok hpt))
  have hglt := hk.lt
  clear hG hok hpt hb
  obtain ⟨N, hN⟩ : ∃ N, N = o.length := ⟨_, rfl⟩
  have HN := Lib.hid (And.intro hN hbl)
  rw [← hN] at hol
  clear hN hbl
  go_enter Tryz.func8, Tryz.ntmps8
  go_wp2_with fail
  go_step3
  go_wp2_with fail
  refine (refuse_open g P 0 _ w hk).mono ?_
  rintro e1 wq ⟨rfl, hwq⟩
  have hwq2 := hwq.symm
  clear hwq
  subst hwq2
  go_wp2_with fail
  refine hfd.mono ?_
  rintro e1 w1 ⟨o', r', e', A1, c1, hgo, rfl, houts, hink1, hgr1⟩
  obtain ⟨rfl, rfl, rfl⟩ := HG.out.1.det hgo
  clear hgo hfd
  have hss := houts.ss
  rw [← HN.out.1] at hss ⊢
  have hsz := hgr1.size
  have hok := HG.out.2.1
  clear houts
  go_wp2_with fail
  go_step3
  go_wp2_with fail
  go_loopg [4, 8, 28] N (fun rem out code idx wr => code = .int .i64 e ∧ FedAt w1 o rem out idx wr)
  case atStart => exact ⟨rfl, 0, none, 0, [], by rw [HN.out.1]; rfl, rfl, rfl, MO.nil _ _, rfl, by simp, Below.refl _ _⟩
  case round =>
    obtain ⟨rfl, k, A2, c2, ps, hgk, rfl, rfl, hmo, hmap, hms, hbw⟩ := hrel
    rw [← HN.out.1] at hgk
    have hpl := hmo.2
    by_cases hlt : k < N
    · obtain ⟨b1, o1, q, A3, c3, rfl, hb1, hq, x1, hqc, hbs, -⟩ := (hss.below hbw).at_ hlt
      have hq0 : (Ms.readP q).2 = 0 := hok q (List.mem_of_getElem? hq)
      have hql : q.length ≤ 140737488355328 := by
        have h := HG.out.2.2.1 q (List.mem_of_getElem? hq)
        rw [List.length_append, HN.out.2] at h
        omega
      have hrd := mRead0_any A3 q.length c3 w1.heap.size q wr hbs hbw.size hqc hql
      unfold ReadRet at hrd
      rw [hq0] at hrd
      have HQ := Lib.hid hq
      have HM := Lib.hid (And.intro hmap hpl)
      clear hbs hq hq0 hmap hpl
      go_wp2_with fail
      refine hrd.mono ?_
      rintro e1 w2 ⟨v2, rfl, hv2, hb2⟩
      obtain ⟨p, hpm, rfl, hv2'⟩ := hv2.mp
      have hbw2 := hbw.trans (hb2.mono hbw.size)
      have hmo2 := hmo.below hb2
      rw [Mp.v_eq]
      have q1 : (k + 1) * 168 ≤ 140737488355328 := by omega
      have q2 : k + 1 ≤ maxLen := by unfold maxLen; omega
      have q3 : w1.heap.size ≤ w2.heap.size := hbw2.size
      have HV := Lib.hid hv2'
      have Q := Lib.hid (And.intro q1 (And.intro q2 q3))
      clear hv2 hv2' hrd q1 q2 q3
      go_wp2_with (first
        | (refine wpList_store_blk rfl 27 (.tmp 11) (.tmp 35) rfl w2.heap.size p.cells.toArray rfl rfl 27 _ (Blk.new w2 _ _) infoM16 rfl (Mp.all_one p) ?_; intro w3 hk3 hg3)
        | (refine wpList_load_blk rfl 27 (.tmp 11) rfl w2.heap.size rfl 27 _ _ hk3 Tryz.underlying27 rfl infoM16 ?_)
        | (refine wpList_buildM rfl Tryz.underlying40 infoMsg (.tmp 41) rfl p rfl ?_)
        | (at_builtin
           have hbn := new_below hg3
           have hmoA := (hmo2.below hbn).below (alloc_b w3 (.cells p.cells.toArray 27))
           refine wpList_appG (by decide) Tryz.underlying40 infoMsg rfl rfl (.tmp 40) (.tmp 42) rfl w1.heap.size A2 k c2 (mps ps) rfl hmoA.1 (some ⟨w3.heap.size, 0, none⟩) 1 1 p.cells rfl rfl (fun _ => ⟨w3.heap.size, 0, rfl, mnew_cells w3 _ p⟩) p.cells_one Q.out.1 Q.out.2.1 (Nat.le_trans Q.out.2.2 (Nat.le_trans hbn.size (alloc_b w3 _).size)) ?_
           intro A4 c4 w5 hown5 hg5 hat5))
      have hK : Kept 0 wr w5 := ((kept_below hb2).trans (kept_below hbn)).trans ((kept_below (alloc_b w3 _)).trans (row_kept hmoA.1 hg5 (by decide) (by decide)))
      have hbw5 : Below w1.heap.size w1 w5 := below_row ((hbw2.trans (hbn.mono hbw2.size)).trans ((alloc_b w3 _).mono (Nat.le_trans hbw2.size hbn.size))) (Nat.le_trans (Nat.le_trans hbw2.size hbn.size) (alloc_b w3 _).size) hmoA.1 (Nat.le_refl _) hg5
      have hv5 : MsgV w5 0 p.m p.v := HV.out.kept ((kept_below hbn).trans ((kept_below (alloc_b w3 _)).trans (row_kept hmoA.1 hg5 (by decide) (by decide))))
      go_roundg (gk - 1)
      case measure => omega
      case rel =>
        refine ⟨rfl, k + 1, A4, c4, ps ++ [p], by rw [← HN.out.1]; omega, by go_num, rfl, ⟨by rw [mps_append, mps_one]; exact hown5, by simp [HM.out.2]⟩, ?_, ?_, hbw5⟩
        · rw [List.map_append, HM.out.1, List.take_add_one, HQ.out]
          simp [hpm, rdM]
        · intro q hq
          rcases List.mem_append.1 hq with hq | hq
          · exact (hms q hq).kept hK
          · simp only [List.mem_singleton] at hq
            subst hq
            exact hv5
    · obtain rfl : k = N := by omega
      have hmapN : ps.map Mp.m = o.map rdM := by rw [hmap, List.take_of_length_le (by rw [← HN.out.1]; exact Nat.le_refl _)]
      have hinkr := hink1.below hbw
      have hgrr := only_below hgr1 hbw
      clear hmap
      by_cases he : e = 0
      · subst he
        have y0 := hinkr.none_
        have hl := hinkr.lt
        go_wp2_with fail
        go_quiet (fail)
        go_wp2_with fail
        try rw [Exit.noGoto_ret]
        go_ret2
        refine ⟨A2, c2, ps, .nilIface, by rw [hpl]; rfl, ?_, hmapN, hms, only_drewN hgrr _, fun _ => ⟨rfl, hinkr.drewN _⟩, fun h => absurd rfl h⟩
        rw [hpl]; exact (hmo.lo hsz).drewN _
      · have t1 : (e != 0) = true := by simpa using he
        have hsh := shut_any g r e wr hinkr
        have htc := fun W (h : w.heap.size ≤ W.heap.size) => told_code (N := fun b => w.heap.size ≤ b) e he [102, 101, 101, 100] W (fun b hb => Nat.le_trans h hb)
        have HE := Lib.hid he
        clear he
        go_wp2_with fail
        refine hsh.mono ?_
        rintro e1 w5 ⟨rfl, hsl5, hgr5⟩
        have hgr05 := only_trans hgrr hgr5
        go_wp2_with fail
        refine (htc _ hgr05.size).mono ?_
        rintro e1 w6 ⟨v6, rfl, hv6, hb6⟩
        obtain ⟨T, xv, rfl⟩ := ErVn.iface hv6 (by simp)
        have hsl6 := hsl5.below hb6
        have y0 := hsl6.err
        have y1 := hsl6.free 1413
        have hsl7 := hsl6.put (.iface T xv)
        have z0 := hsl7.err
        have hl := hsl6.lt
        go_wp2_with fail
        go_quiet (fail)
        go_wp2_with fail
        try rw [Exit.noGoto_ret]
        go_ret2
        have hgr7 : w6.grownBy (w6.setCell ⟨g, 1413, none⟩ (.iface T xv)) (some g) := only_at (World.grownBy.refl _ _)
        have hK : Kept 0 wr (w6.setCell ⟨g, 1413, none⟩ (.iface T xv)) := ((hinkr.kept0 hgr5).trans (kept_below hb6)).trans (hsl6.kept0 hgr7)
        have hmo7 : MO (w6.setCell ⟨g, 1413, none⟩ (.iface T xv)) w1.heap.size A2 k c2 ps :=
          ((hmo.only hgr5 (fun j hj => by injection hj with hj; omega)).below hb6).only hgr7 (fun j hj => by injection hj with hj; omega)
        refine ⟨A2, c2, ps, .iface T xv, by rw [hpl]; rfl, ?_, hmapN, fun p hp => (hms p hp).kept (w' := (w6.setCell ⟨g, 1413, none⟩ (.iface T xv)).drewN _) ⟨hK.size, hK.block⟩, only_drewN (only_trans (only_below hgr05 hb6) hgr7) _, fun h => absurd h HE.out, fun _ => ⟨?_, hsl7⟩⟩
        · rw [hpl]; exact (hmo7.lo hsz).drewN _
        · exact ErVn.grown (row := some g) (w := w6) (only_drewN hgr7 _) (fun b hb e => by injection e with e; omega) hv6
end Go.Proofs.YthhhiiagppckhaaGreatDoor
end
