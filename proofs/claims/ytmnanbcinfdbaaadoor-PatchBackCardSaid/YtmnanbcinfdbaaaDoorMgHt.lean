/- A trail of steps in memory; conditions: none beyond their hypotheses. Steps in a row of the call's own: copied, its last step written; conditions: none beyond their hypotheses. The walks of the trail's methods last, next, copied; conditions: none beyond their hypotheses. -/
import Derived.Test.YtmnanbcinfdbaaaDoorMgGr6
import Derived.Test.YtmnanbcinfdbaaaDoorMgHp
set_option linter.unusedSimpArgs false
set_option linter.unusedVariables false
section
namespace Go.Proofs.YtmnanbcinfdbaaaDoor
open Go.RowKit Go.Proofs.U
set_option linter.unusedVariables false
/-- bytes of a step that is done, in no row that still grows -/
def Old (w : World) (base : Nat) (row : Option Nat) (A : Option Addr) (bs : List UInt8) : Prop :=
  BS w w.heap.size A bs.length bs ∧ (0 < bs.length → ∀ a, A = some a → base ≤ a.block ∧ some a.block ≠ row ∧ ∃ cur fr, w.heap[a.block]? = some (.cells cur 5 fr))
theorem Old.kept {w w' : World} {base : Nat} {row row' row2 : Option Nat} {A : Option Addr} {bs : List UInt8} (h : Old w base row A bs) (hg : w.grownBy w' row2) (h2 : ∀ k, row2 = some k → some k = row ∨ ∀ cur fr, w.heap[k]? ≠ some (.cells cur 5 fr))
    (h3 : ∀ k, row' = some k → some k = row ∨ w.heap.size ≤ k) : Old w' base row' A bs := by
  obtain ⟨hb, ht⟩ := h
  refine ⟨⟨hb.1, fun hn => ?_⟩, fun hn a ha => ?_⟩
  · obtain ⟨b, off, rfl, hlt, hc⟩ := hb.2 hn
    obtain ⟨h4, h5, cur, fr, h6⟩ := ht hn _ rfl
    have hne : some b ≠ row2 := fun e => by
      rcases h2 b e.symm with h7 | h7
      · exact h5 h7
      · exact h7 cur fr h6
    exact ⟨b, off, rfl, Nat.lt_of_lt_of_le hlt hg.size, fun j hj => (World.cell?_of_block (hg.block b hlt hne)).trans (hc j hj)⟩
  · obtain ⟨h4, h5, cur, fr, h6⟩ := ht hn a ha
    have hlt : a.block < w.heap.size := (Array.getElem?_eq_some_iff.1 h6).1
    have hne : some a.block ≠ row2 := fun e => by
      rcases h2 _ e.symm with h7 | h7
      · exact h5 h7
      · exact h7 cur fr h6
    refine ⟨h4, fun e => ?_, cur, fr, (hg.block _ hlt hne).trans h6⟩
    rcases h3 _ e.symm with h7 | h7
    · exact h5 h7
    · omega
theorem Old.dat {w : World} {base B0 : Nat} {row : Option Nat} {A : Option Addr} {bs : List UInt8} (h : Old w base row A bs) : Dat w B0 A bs :=
  ⟨h.1, fun hn a ha => .inr (h.2 hn a ha).2.2⟩
theorem Own.old {w : World} {base n c : Nat} {A : Option Addr} {bs : List UInt8} {row : Option Nat} (h : U.Own w base 5 A n c bs) (hr : ∀ k, row = some k → w.heap.size ≤ k) : Old w base row A bs := by
  have hl := h.len
  subst hl
  refine ⟨h.bs, fun hn a ha => ?_⟩
  rcases h.2 with ⟨hv, h0⟩ | ⟨g, cap, cur, hv, hg, hh, _⟩
  · omega
  · injection hv with hA
    rw [hA] at ha
    obtain rfl := Option.some.inj ha
    exact ⟨hg, fun e => by have := hr g e.symm; have := (Array.getElem?_eq_some_iff.1 hh).1; omega, cur, _, hh⟩
/-- a step's cells in a row -/
def StC (vs : List Value) (j : Nat) (x : Gr.Stp) (A : Option Addr) (c : Nat) : Prop :=
  vs[j * 4]? = some (.int .i64 x.k) ∧ vs[j * 4 + 1]? = some (.int .i64 x.f) ∧ vs[j * 4 + 2]? = some (.int .i64 x.l) ∧ vs[j * 4 + 3]? = some (.slice A x.d.length c)
theorem StC.left {vs vs' : List Value} {j : Nat} {x : Gr.Stp} {A : Option Addr} {c : Nat} (h : StC vs j x A c) : StC (vs ++ vs') j x A c := by
  have key : ∀ {i v}, vs[i]? = some v → (vs ++ vs')[i]? = some v := fun {i v} h => by
    rw [List.getElem?_append_left (List.getElem?_eq_some_iff.1 h).1]; exact h
  exact ⟨key h.1, key h.2.1, key h.2.2.1, key h.2.2.2⟩
theorem StC.set_other {vs : List Value} {j i : Nat} {x : Gr.Stp} {A : Option Addr} {c : Nat} {u : Value} (h : StC vs j x A c) (hi : (j + 1) * 4 ≤ i) : StC (vs.set i u) j x A c := by
  rw [Nat.add_mul] at hi
  have key : ∀ {k v}, k < i → vs[k]? = some v → (vs.set i u)[k]? = some v := fun {k v} hk h => by
    rw [List.getElem?_set_ne (by omega)]; exact h
  exact ⟨key (by omega) h.1, key (by omega) h.2.1, key (by omega) h.2.2.1, key (by omega) h.2.2.2⟩
theorem StC.new (vs : List Value) (j : Nat) (x : Gr.Stp) (A : Option Addr) (c : Nat) (h : vs.length = j * 4) : StC (vs ++ stpCells x A c) j x A c := by
  refine ⟨?_, ?_, ?_, ?_⟩ <;> rw [List.getElem?_append_right (by omega), h]
  · rw [Nat.sub_self]; rfl
  · rw [Nat.add_sub_cancel_left]; rfl
  · rw [Nat.add_sub_cancel_left]; rfl
  · rw [Nat.add_sub_cancel_left]; rfl
/-- the trail's steps, the last one apart -/
def Lst (w : World) (base : Nat) (vs : List Value) (l : List Gr.Stp) : Prop :=
  l = [] ∨ ∃ ini x Al cl, l = ini ++ [x] ∧ (∀ (j : Nat) y, ini[j]? = some y → ∃ A' c', StC vs j y A' c' ∧ y.d.length ≤ c' ∧ Old w base (Value.slice Al x.d.length cl).ownBlock A' y.d) ∧ StC vs ini.length x Al cl ∧ U.Own w base 5 Al x.d.length cl x.d
/-- a trail -/
def Tr (w : World) (base t : Nat) (A : Option Addr) (n c : Nat) (l : List Gr.Stp) : Prop :=
  Blk w t 106 #[.slice A n c] ∧ base ≤ t ∧ ∃ vs, w.ownsRow base 68 4 (.slice A n c) n vs ∧ l.length = n ∧ (∀ u ∈ vs, u.oneCell' = true) ∧ Lst w base vs l
theorem own_block_lt {w : World} {base n c : Nat} {A : Option Addr} {bs : List UInt8} (h : U.Own w base 5 A n c bs) : ∀ k, (Value.slice A n c).ownBlock = some k → k < w.heap.size ∧ base ≤ k ∧ ∃ cur fr, w.heap[k]? = some (.cells cur 5 fr) := by
  intro k hk
  rcases h.2 with ⟨hv, h0⟩ | ⟨g, cap, cur, hv, hg, hh, _⟩
  · rw [hv] at hk; simp [Value.ownBlock] at hk
  · rw [hv] at hk
    simp only [Value.ownBlock, Option.some.injEq] at hk
    subst hk
    exact ⟨(Array.getElem?_eq_some_iff.1 hh).1, hg, cur, _, hh⟩
theorem row_block {w : World} {base n c : Nat} {A : Option Addr} {vs : List Value} (h : w.ownsRow base 68 4 (.slice A n c) n vs) : ∀ k, (Value.slice A n c).ownBlock = some k → k < w.heap.size ∧ base ≤ k ∧ ∃ cur fr, w.heap[k]? = some (.cells cur 68 fr) := by
  intro k hk
  rcases h.2 with ⟨hv, h0⟩ | ⟨g, cap, cur, hv, hg, hh, _⟩
  · rw [hv] at hk; simp [Value.ownBlock] at hk
  · rw [hv] at hk
    simp only [Value.ownBlock, Option.some.injEq] at hk
    subst hk
    exact ⟨(Array.getElem?_eq_some_iff.1 hh).1, hg, cur, _, hh⟩
theorem not_u8 {w : World} {k : Nat} {cur : Array Value} {T : TypeId} {fr : Nat × Nat} (h : w.heap[k]? = some (.cells cur T fr)) (hT : T ≠ 5) : ∀ cur' fr', w.heap[k]? ≠ some (.cells cur' 5 fr') := fun cur' fr' e => by
  rw [h] at e
  injection e with e
  injection e with _ e _
  exact hT e
/-- where nothing of the trail is written -/
theorem Lst.kept {w w' : World} {base : Nat} {vs : List Value} {l : List Gr.Stp} {row : Option Nat} (h : Lst w base vs l) (hg : w.grownBy w' row) (h2 : ∀ k, row = some k → ∀ cur fr, w.heap[k]? ≠ some (.cells cur 5 fr)) : Lst w' base vs l := by
  rcases h with h | ⟨ini, x, Al, cl, h1, h3, h4, h5⟩
  · exact .inl h
  · refine .inr ⟨ini, x, Al, cl, h1, fun j y hy => ?_, h4, World.ownsRow.kept h5 hg ?_⟩
    · obtain ⟨A', c', r1, r2, r3⟩ := h3 j y hy
      exact ⟨A', c', r1, r2, r3.kept hg (fun k hk => .inr (h2 k hk)) (fun k hk => .inl hk.symm)⟩
    · cases hA : (Value.slice Al x.d.length cl).ownBlock with
      | none => exact .inl rfl
      | some k =>
        exact .inr fun e => by
          obtain ⟨_, _, cur, fr, hh⟩ := own_block_lt h5 k hA
          exact h2 k e.symm cur fr hh
theorem Tr.below {w w' : World} {base t n c : Nat} {A : Option Addr} {l : List Gr.Stp} (h : Tr w base t A n c l) (hb : Below w.heap.size w w') : Tr w' base t A n c l := by
  obtain ⟨h1, h2, vs, h3, h4, h5, h6⟩ := h
  have hg : w.grownBy w' none := ⟨hb.os, hb.tape, hb.output, hb.size, fun k hk _ => hb.block k hk⟩
  refine ⟨h1.stay hb, h2, vs, World.ownsRow.kept (row := none) h3 hg ?_, h4, h5, h6.kept hg fun k hk => by cases hk⟩
  cases A with
  | none => exact .inl rfl
  | some a => exact .inr (by simp [Value.ownBlock])
theorem Tr.len {w : World} {base t n c : Nat} {A : Option Addr} {l : List Gr.Stp} (h : Tr w base t A n c l) : l.length = n := by obtain ⟨_, _, _, _, h, _⟩ := h; exact h
theorem Tr.so {w : World} {base t n c B0 : Nat} {A : Option Addr} {l : List Gr.Stp} (h : Tr w base t A n c l) : SO w base B0 A n c l := by
  obtain ⟨h1, h2, vs, h3, h4, h5, h6⟩ := h
  refine ⟨vs, h3, h3.1, h4, h5, fun j x hx => ?_⟩
  rcases h6 with rfl | ⟨ini, y, Al, cl, rfl, r1, r2, r3⟩
  · simp at hx
  · rcases Nat.lt_or_ge j ini.length with hj | hj
    · rw [List.getElem?_append_left hj] at hx
      obtain ⟨A', c', ⟨s0, s1, s2, s3⟩, q2, q3⟩ := r1 j x hx
      exact ⟨A', c', s0, s1, s2, s3, q2, q3.dat⟩
    · obtain rfl : j = ini.length := by have := (List.getElem?_eq_some_iff.1 hx).1; simp at this; omega
      rw [List.getElem?_append_right (Nat.le_refl _), Nat.sub_self] at hx
      simp only [List.getElem?_cons_zero, Option.some.injEq] at hx
      subst hx
      obtain ⟨s0, s1, s2, s3⟩ := r2
      exact ⟨Al, cl, s0, s1, s2, s3, Own.le r3, Dat.own r3⟩
/-- the last step in memory -/
theorem Tr.last_ {w : World} {base t n c : Nat} {A : Option Addr} {ini : List Gr.Stp} {x : Gr.Stp} (h : Tr w base t A n c (ini ++ [x])) :
    ∃ g Al cl, A = some ⟨g, 0, none⟩ ∧ n = ini.length + 1 ∧ n ≤ c ∧ g < w.heap.size ∧ base ≤ g ∧ w.cell? ⟨t, 0, none⟩ = some (.slice A n c) ∧ w.cell? ⟨g, ini.length * 4, none⟩ = some (.int .i64 x.k) ∧ w.cell? ⟨g, ini.length * 4 + 1, none⟩ = some (.int .i64 x.f) ∧ w.cell? ⟨g, ini.length * 4 + 2, none⟩ = some (.int .i64 x.l) ∧
    w.cell? ⟨g, ini.length * 4 + 3, none⟩ = some (.slice Al x.d.length cl) ∧ (∀ j, w.frozen? ⟨g, j, none⟩ = false) ∧ U.Own w base 5 Al x.d.length cl x.d := by
  obtain ⟨h1, h2, vs, h3, h4, h5, h6⟩ := h
  have hn : n = ini.length + 1 := by rw [← h4]; simp
  obtain ⟨g, cap, hv, hg, hlt⟩ := World.ownsRow.form h3 (by omega)
  have hA : A = some ⟨g, 0, none⟩ := by injection hv
  subst hA
  rcases h6 with h6 | ⟨ini', y, Al, cl, he, r1, ⟨s0, s1, s2, s3⟩, r3⟩
  · simp at h6
  · obtain ⟨rfl, hx⟩ := List.append_inj' he rfl
    simp only [List.cons.injEq, and_true] at hx
    subst hx
    have cell : ∀ i u, vs[i]? = some u → w.cell? ⟨g, i, none⟩ = some u := fun i u hu => by
      rw [World.ownsRow.cellAt h3 i (by have := (List.getElem?_eq_some_iff.1 hu).1; have := h3.1; omega)]; exact hu
    exact ⟨g, Al, cl, rfl, hn, by rcases h3.2 with ⟨hv, h0⟩ | ⟨g', cap', cur, hv, _, _, hcap, _⟩
                                  · omega
                                  · injection hv with _ _ e; omega, hlt, hg, h1.cell 0, cell _ _ s0, cell _ _ s1, cell _ _ s2, cell _ _ s3, World.ownsRow.frozenAt h3, r3⟩
theorem row_ne {w : World} {a b : Nat} {cu cv : Array Value} {T U : TypeId} {fr fs : Nat × Nat} (h : w.heap[a]? = some (.cells cu T fr)) (h' : w.heap[b]? = some (.cells cv U fs)) (hne : T ≠ U) : a ≠ b := by
  rintro rfl
  rw [h] at h'
  injection h' with h'
  injection h' with _ e _
  exact hne e
theorem grown_setC (w : World) (g i : Nat) (u : Value) : w.grownBy (w.setCell ⟨g, i, none⟩ u) (some g) := only_setCell (World.grownBy.refl w (some g)) (.inl rfl) u
/-- the last step's length written -/
theorem Tr.setLen {w : World} {base t n c g : Nat} {A : Option Addr} {ini : List Gr.Stp} {x : Gr.Stp} (h : Tr w base t A n c (ini ++ [x])) (hA : A = some ⟨g, 0, none⟩) (v : Int) :
    Tr (w.setCell ⟨g, ini.length * 4 + 2, none⟩ (.int .i64 v)) base t A n c (ini ++ [⟨x.k, x.f, v, x.d⟩]) := by
  obtain ⟨h1, h2, vs, h3, h4, h5, h6⟩ := h
  subst hA
  obtain ⟨hgl, hgb, cu, fr, hgh⟩ := row_block h3 g rfl
  have hgt : g ≠ t := row_ne hgh h1 (by decide)
  have hg := grown_setC w g (ini.length * 4 + 2) (.int .i64 v)
  refine ⟨h1.far (fun e => hgt e.symm) _, h2, _, (World.ownsRow.stored h3 (ini.length * 4 + 2) (.int .i64 v)).1, by simpa using h4, fun u hu => ?_, ?_⟩
  · rcases List.mem_or_eq_of_mem_set hu with hu | rfl
    · exact h5 u hu
    · rfl
  · rcases h6 with h6 | ⟨ini', y, Al, cl, he, r1, ⟨s0, s1, s2, s3⟩, r3⟩
    · simp at h6
    · obtain ⟨rfl, hx⟩ := List.append_inj' he rfl
      simp only [List.cons.injEq, and_true] at hx
      subst hx
      have hnu := not_u8 hgh (by decide)
      refine .inr ⟨ini, ⟨x.k, x.f, v, x.d⟩, Al, cl, rfl, fun j y hy => ?_, ⟨?_, ?_, ?_, ?_⟩, World.ownsRow.kept r3 hg ?_⟩
      · obtain ⟨A', c', q1, q2, q3⟩ := r1 j y hy
        have hj := (List.getElem?_eq_some_iff.1 hy).1
        refine ⟨A', c', q1.set_other (by omega), q2, q3.kept hg (fun k hk => .inr ?_) (fun k hk => .inl hk.symm)⟩
        injection hk with hk
        subst hk
        exact hnu
      · rw [List.getElem?_set_ne (by omega)]; exact s0
      · rw [List.getElem?_set_ne (by omega)]; exact s1
      · rw [List.getElem?_set_self (List.getElem?_eq_some_iff.1 s2).1]
      · rw [List.getElem?_set_ne (by omega)]; exact s3
      · cases hB : (Value.slice Al x.d.length cl).ownBlock with
        | none => exact .inl rfl
        | some k =>
          exact .inr fun e => by
            obtain ⟨_, _, cur, fr, hh⟩ := own_block_lt r3 k hB
            injection e with e
            subst e
            exact hnu cur fr hh
/-- the last step's bytes written -/
theorem Tr.setData {w w2 : World} {base t n c g m c2 cl : Nat} {A Al A2 : Option Addr} {ini : List Gr.Stp} {x : Gr.Stp} {d2 : List UInt8} (h : Tr w base t A n c (ini ++ [x])) (hA : A = some ⟨g, 0, none⟩) (hc : w.cell? ⟨g, ini.length * 4 + 3, none⟩ = some (.slice Al x.d.length cl))
    (hg : w.grownBy w2 (Value.slice Al x.d.length cl).ownBlock) (ho : U.Own w2 base 5 A2 m c2 d2) (hw : (Value.slice A2 m c2).ownBlock = (Value.slice Al x.d.length cl).ownBlock ∨ (Value.slice A2 m c2).ownBlock = some w.heap.size) :
    Tr (w2.setCell ⟨g, ini.length * 4 + 3, none⟩ (.slice A2 m c2)) base t A n c (ini ++ [⟨x.k, x.f, x.l, d2⟩]) := by
  obtain ⟨h1, h2, vs, h3, h4, h5, h6⟩ := h
  subst hA
  have hm := ho.len
  subst hm
  rcases h6 with h6 | ⟨ini', y, Al', cl', he, r1, ⟨s0, s1, s2, s3⟩, r3⟩
  · simp at h6
  obtain ⟨rfl, hx⟩ := List.append_inj' he rfl
  simp only [List.cons.injEq, and_true] at hx
  subst hx
  have hn3 : ini.length * 4 + 3 < n * 4 := by rw [← h3.1]; exact (List.getElem?_eq_some_iff.1 s3).1
  have hAl : Al' = Al ∧ cl' = cl := by
    rw [World.ownsRow.cellAt h3 _ hn3, s3] at hc
    injection hc with hc
    injection hc with e1 e2 e3
    exact ⟨e1, e3⟩
  obtain ⟨rfl, rfl⟩ := hAl
  obtain ⟨hgl, hgb, cu, fr, hgh⟩ := row_block h3 g rfl
  have hgt : g ≠ t := row_ne hgh h1 (by decide)
  have hnd : ∀ k, (Value.slice Al' x.d.length cl').ownBlock = some k → k ≠ t ∧ k ≠ g := fun k hk => by
    obtain ⟨_, _, cur, fr', hh⟩ := own_block_lt r3 k hk
    exact ⟨row_ne hh h1 (by decide), row_ne hh hgh (by decide)⟩
  have hgh2 : w2.heap[g]? = some (.cells cu 68 fr) := (hg.block g hgl (fun e => (hnd g e.symm).2 rfl)).trans hgh
  have h12 : Blk w2 t 106 #[.slice (some ⟨g, 0, none⟩) n c] := h1.grown hg (fun e => (hnd t e.symm).1 rfl)
  have h32 := World.ownsRow.kept h3 hg (.inr fun e => (hnd g e.symm).2 rfl)
  have hs := grown_setC w2 g (ini.length * 4 + 3) (.slice A2 d2.length c2)
  have hnu := not_u8 hgh2 (by decide)
  refine ⟨h12.far (fun e => hgt e.symm) _, h2, _, (World.ownsRow.stored h32 (ini.length * 4 + 3) (.slice A2 d2.length c2)).1, by simpa using h4, fun u hu => ?_, ?_⟩
  · rcases List.mem_or_eq_of_mem_set hu with hu | rfl
    · exact h5 u hu
    · rfl
  · refine .inr ⟨ini, ⟨x.k, x.f, x.l, d2⟩, A2, c2, rfl, fun j y hy => ?_, ⟨?_, ?_, ?_, ?_⟩, World.ownsRow.kept ho hs ?_⟩
    · obtain ⟨A', c', q1, q2, q3⟩ := r1 j y hy
      have hj := (List.getElem?_eq_some_iff.1 hy).1
      have q4 : Old w2 base (Value.slice A2 d2.length c2).ownBlock A' y.d := q3.kept hg (fun k hk => .inl hk.symm) (fun k hk => by
        rcases hw with hw | hw
        · exact .inl (by rw [← hw, hk])
        · rw [hw] at hk; injection hk with hk; exact .inr (by omega))
      refine ⟨A', c', q1.set_other (by omega), q2, q4.kept hs (fun k hk => .inr ?_) (fun k hk => .inl hk.symm)⟩
      injection hk with hk
      subst hk
      exact hnu
    · rw [List.getElem?_set_ne (by omega)]; exact s0
    · rw [List.getElem?_set_ne (by omega)]; exact s1
    · rw [List.getElem?_set_ne (by omega)]; exact s2
    · rw [List.getElem?_set_self (List.getElem?_eq_some_iff.1 s3).1]
    · cases hB : (Value.slice A2 d2.length c2).ownBlock with
      | none => exact .inl rfl
      | some k =>
        exact .inr fun e => by
          obtain ⟨_, _, cur, fr, hh⟩ := own_block_lt ho k hB
          injection e with e
          subst e
          exact hnu cur fr hh
/-- a step appended -/
theorem Tr.app {w w2 : World} {base t n c c2 : Nat} {A A2 : Option Addr} {l : List Gr.Stp} {vs : List Value} (h1 : Blk w t 106 #[.slice A n c]) (h2 : base ≤ t) (h3 : w.ownsRow base 68 4 (.slice A n c) n vs) (h4 : l.length = n) (h5 : ∀ u ∈ vs, u.oneCell' = true) (h6 : Lst w base vs l)
    (x : Gr.Stp) (hx : x.d = []) (hg : w.grownBy w2 (Value.slice A n c).ownBlock) (ho : w2.ownsRow base 68 4 (.slice A2 (n + 1) c2) (n + 1) (vs ++ stpCells x none 0)) :
    Tr (w2.setCell ⟨t, 0, none⟩ (.slice A2 (n + 1) c2)) base t A2 (n + 1) c2 (l ++ [x]) := by
  have hnA : ∀ k, (Value.slice A n c).ownBlock = some k → k ≠ t ∧ ∀ cur fr, w.heap[k]? ≠ some (.cells cur 5 fr) := fun k hk => by
    obtain ⟨_, _, cur, fr', hh⟩ := row_block h3 k hk
    exact ⟨row_ne hh h1 (by decide), not_u8 hh (by decide)⟩
  have h12 : Blk w2 t 106 #[.slice A n c] := h1.grown hg (fun e => (hnA t e.symm).1 rfl)
  have hs := grown_setC w2 t 0 (.slice A2 (n + 1) c2)
  have hL : Lst w2 base (vs ++ stpCells x none 0) (l ++ [x]) := by
    refine .inr ⟨l, x, none, 0, rfl, fun j y hy => ?_, StC.new vs _ x none 0 (by rw [h4]; exact h3.1), by rw [hx]; exact Own.nil _ _ _⟩
    have hnone : (Value.slice none x.d.length 0).ownBlock = none := rfl
    rw [hnone]
    have hkeep : ∀ {row A' bs}, Old w base row A' bs → Old w2 base none A' bs := fun ho => ho.kept hg (fun k hk => .inr (hnA k hk).2) (fun k hk => by cases hk)
    rcases h6 with rfl | ⟨ini, z, Al, cl, rfl, r1, r2, r3⟩
    · simp at hy
    · rcases Nat.lt_or_ge j ini.length with hj | hj
      · rw [List.getElem?_append_left hj] at hy
        obtain ⟨A', c', q1, q2, q3⟩ := r1 j y hy
        exact ⟨A', c', q1.left, q2, hkeep q3⟩
      · obtain rfl : j = ini.length := by have := (List.getElem?_eq_some_iff.1 hy).1; simp at this; omega
        rw [List.getElem?_append_right (Nat.le_refl _), Nat.sub_self] at hy
        simp only [List.getElem?_cons_zero, Option.some.injEq] at hy
        subst hy
        exact ⟨Al, cl, r2.left, Own.le r3, hkeep (Own.old (row := none) r3 (fun k hk => by cases hk))⟩
  refine ⟨?_, h2, _, World.ownsRow.kept ho hs ?_, by simp [h4], fun u hu => ?_, hL.kept hs fun k hk => ?_⟩
  · have := h12.set_ 0 (.slice A2 (n + 1) c2)
    simpa using this
  · cases hB : (Value.slice A2 (n + 1) c2).ownBlock with
    | none => exact .inl rfl
    | some k =>
      exact .inr fun e => by
        obtain ⟨_, _, cur, fr, hh⟩ := row_block ho k hB
        injection e with e
        subst e
        exact absurd rfl (row_ne hh h12 (by decide))
  · rcases List.mem_append.1 hu with hu | hu
    · exact h5 u hu
    · simp only [stpCells, List.mem_cons, List.not_mem_nil, or_false] at hu
      rcases hu with rfl | rfl | rfl | rfl <;> rfl
  · injection hk with hk
    subst hk
    exact not_u8 h12 (by decide)
/-- what the trail's own calls leave alone: blocks that are no trail, no steps, no bytes -/
def Spare (t : Nat) (w w' : World) : Prop := ∀ q cs T fr, w.heap[q]? = some (.cells cs T fr) → q ≠ t → T ≠ 68 → T ≠ 5 → w'.heap[q]? = some (.cells cs T fr)
theorem Spare.refl (t : Nat) (w : World) : Spare t w w := fun _ _ _ _ h _ _ _ => h
theorem Spare.trans {t : Nat} {a b c : World} (h : Spare t a b) (k : Spare t b c) : Spare t a c := fun q cs T fr hh h1 h2 h3 => k q cs T fr (h q cs T fr hh h1 h2 h3) h1 h2 h3
theorem Spare.grown {t : Nat} {w w' : World} {row : Option Nat} (hg : w.grownBy w' row) (hr : ∀ k, row = some k → k = t ∨ ∃ cs T fr, w.heap[k]? = some (.cells cs T fr) ∧ (T = 68 ∨ T = 5)) : Spare t w w' := fun q cs T fr hh h1 h2 h3 => by
  refine (hg.block q (Array.getElem?_eq_some_iff.1 hh).1 fun e => ?_).trans hh
  rcases hr q e.symm with h4 | ⟨cs', T', fr', h4, h5⟩
  · exact h1 h4
  · rw [hh] at h4
    injection h4 with h4
    injection h4 with _ e2 _
    subst e2
    rcases h5 with h5 | h5
    · exact h2 h5
    · exact h3 h5
theorem Spare.below {t : Nat} {w w' : World} (hb : Below w.heap.size w w') : Spare t w w' :=
  Spare.grown (row := none) ⟨hb.os, hb.tape, hb.output, hb.size, fun k hk _ => hb.block k hk⟩ (fun k h => by cases h)
theorem Spare.blk {t g : Nat} {w w' : World} {T : TypeId} {cs : Array Value} (h : Spare t w w') (hb : Blk w g T cs) (h1 : g ≠ t) (h2 : T ≠ 68) (h3 : T ≠ 5) : Blk w' g T cs := h g cs T (0, 0) hb h1 h2 h3
/-- a trail behind a write into another object -/
theorem Tr.grown {w w' : World} {base t n c g : Nat} {A : Option Addr} {l : List Gr.Stp} {cs : Array Value} {T : TypeId} {fr : Nat × Nat} (h : Tr w base t A n c l) (hg : w.grownBy w' (some g)) (hk : w.heap[g]? = some (.cells cs T fr)) (h1 : T ≠ 68) (h2 : T ≠ 5) (h3 : T ≠ 106) : Tr w' base t A n c l := by
  obtain ⟨r1, r2, vs, r3, r4, r5, r6⟩ := h
  refine ⟨r1.grown hg (fun e => ?_), r2, vs, World.ownsRow.kept r3 hg ?_, r4, r5, r6.kept hg fun k e => ?_⟩
  · injection e with e
    subst e
    exact absurd rfl (row_ne hk r1 h3)
  · cases hA : (Value.slice A n c).ownBlock with
    | none => exact .inl rfl
    | some k =>
      exact .inr fun e => by
        obtain ⟨_, _, cur, fr', hh⟩ := row_block r3 k hA
        injection e with e
        subst e
        exact absurd rfl (row_ne hk hh h1)
  · injection e with e
    subst e
    exact not_u8 hk h2
end Go.Proofs.YtmnanbcinfdbaaaDoor
end

section
namespace Go.Proofs.YtmnanbcinfdbaaaDoor
open Go.RowKit Go.Proofs.U
set_option linter.unusedVariables false
/-- append of a whole row of steps -/
theorem run_app4o {P : Program} {w : World} {t e : TypeId} {z : Value} {by_ : Nat} (ht : P.underlying t = some (.slice e)) (hI : (P.info? e).map (fun i => (i.zero, i.size, i.bytes)) = some (some z, 4, by_)) (hz1 : z.cells.size = 4) (ty : TypeId) (base : Nat)
    (A : Option Addr) (n c : Nat) (vs : List Value) (hown : w.ownsRow base e 4 (.slice A n c) n vs)
    (base' : Nat) (A' : Option Addr) (m c' : Nat) (vs' : List Value) (hown' : w.ownsRow base' e 4 (.slice A' m c') m vs') (h1 : ∀ u ∈ vs', u.oneCell' = true) (hlen : (n + m) * by_ ≤ 140737488355328) (hmax : n + m ≤ maxLen) (hbase : base ≤ w.heap.size) :
    ∃ A2 c2 w2, (Builtin.append_ #[t, t] ty #[.slice A n c, .slice A' m c']).run P w = .ok (.slice A2 (n + m) c2) w2 ∧ w2.ownsRow base e 4 (.slice A2 (n + m) c2) (n + m) (vs ++ vs') ∧
      w.grownBy w2 (Value.slice A n c).ownBlock ∧ ((Value.slice A2 (n + m) c2).ownBlock = (Value.slice A n c).ownBlock ∨ (Value.slice A2 (n + m) c2).ownBlock = some w.heap.size) := by
  obtain ⟨i, hi, hz, hs, hb⟩ := info_parts hI
  cases A' with
  | none =>
    have hm : m = 0 ∧ c' = 0 := by
      rcases hown'.2 with ⟨hv, h0⟩ | ⟨g, cap, cur, hv, _⟩
      · injection hv with _ _ e2; exact ⟨h0, e2⟩
      · injection hv with e1; cases e1
    obtain ⟨rfl, rfl⟩ := hm
    have hv0 : vs' = [] := List.eq_nil_of_length_eq_zero (by have := hown'.1; omega)
    subst hv0
    exact ⟨A, c, w, run_append_none base t ty e i 4 ht hi _ n _ hown 0, by simpa using hown, World.grownBy.refl w _, .inl rfl⟩
  | some ad => 
    obtain ⟨gb, rfl⟩ : ∃ gb, ad = ⟨gb, 0, none⟩ := by
      rcases hown'.2 with ⟨hv, h0⟩ | ⟨g, cap, cur, hv, _⟩
      · injection hv with e1; cases e1
      · injection hv with e1; injection e1 with e1; exact ⟨g, e1⟩
    exact run_app4 ht hI hz1 ty base A n c vs hown ⟨gb, 0, none⟩ m c' vs' hown'.1 (World.ownsRow.cells hown' rfl) h1 hlen hmax hbase
theorem wpList_app4o {P : Program} {w : World} {t e : TypeId} {z : Value} {by_ : Nat} (ht : P.underlying t = some (.slice e)) (hI : (P.info? e).map (fun i => (i.zero, i.size, i.bytes)) = some (some z, 4, by_)) (hz1 : z.cells.size = 4)
    {ops : Array Oper} {rest : List Oper} {o : Oper} {a : Act} {Q : Exit → Act → World → Prop} (hgd : o.guard = none) (s x : Operand)
    (ho : o.op = .call { callee := .builtin .append, args := #[s, x], argTypes := #[t, t] })
    (base : Nat) (A : Option Addr) (n c : Nat) (vs : List Value) (hs : a.eval s = .slice A n c) (hown : w.ownsRow base e 4 (.slice A n c) n vs)
    (base' : Nat) (A' : Option Addr) (m c' : Nat) (vs' : List Value) (hx : a.eval x = .slice A' m c') (hown' : w.ownsRow base' e 4 (.slice A' m c') m vs') (h1 : ∀ u ∈ vs', u.oneCell' = true) (hlen : (n + m) * by_ ≤ 140737488355328) (hmax : n + m ≤ maxLen) (hbase : base ≤ w.heap.size)
    (h : ∀ A2 c2 w2, w2.ownsRow base e 4 (.slice A2 (n + m) c2) (n + m) (vs ++ vs') → w.grownBy w2 (Value.slice A n c).ownBlock → ((Value.slice A2 (n + m) c2).ownBlock = (Value.slice A n c).ownBlock ∨ (Value.slice A2 (n + m) c2).ownBlock = some w.heap.size) →
      wpList P ops Q rest (a.put o.dst (.slice A2 (n + m) c2)) w2) : wpList P ops Q (o :: rest) a w :=
  wpList_plain hgd fun _ hK => by
    obtain ⟨A2, c2, w2, hrun, h2, h3, h4⟩ := run_app4o (w := w) ht hI hz1 o.type base A n c vs hown base' A' m c' vs' hown' h1 hlen hmax hbase
    unfold Oper.wp execOp
    simp only [ho, resolve, invoke, builtin, Sem.run_bind, Sem.run_pure, Result.andThen_ok, List.map_toArray, List.map_cons, List.map_nil, hs, hx, hrun]
    exact hK _ _ (h A2 c2 w2 h2 h3 h4)
/-- each step's cells, its bytes somewhere -/
def Cels (w : World) (B0 : Nat) (vs : List Value) (l : List Gr.Stp) : Prop := ∀ (j : Nat) (x : Gr.Stp), l[j]? = some x → ∃ A' c', StC vs j x A' c' ∧ x.d.length ≤ c' ∧ Dat w B0 A' x.d
theorem SO.opened {w : World} {base B0 n c : Nat} {A : Option Addr} {l : List Gr.Stp} (h : SO w base B0 A n c l) : ∃ vs, w.ownsRow base 68 4 (.slice A n c) n vs ∧ l.length = n ∧ (∀ u ∈ vs, u.oneCell' = true) ∧ Cels w B0 vs l := by
  obtain ⟨vs, h1, h2, h3, h4, h5⟩ := h
  exact ⟨vs, h1, h3, h4, fun j x hx => by obtain ⟨A', c', r0, r1, r2, r3, r4, r5⟩ := h5 j x hx; exact ⟨A', c', ⟨r0, r1, r2, r3⟩, r4, r5⟩⟩
theorem SO.shut {w : World} {base B0 n c : Nat} {A : Option Addr} {l : List Gr.Stp} {vs : List Value} (h1 : w.ownsRow base 68 4 (.slice A n c) n vs) (h2 : l.length = n) (h3 : ∀ u ∈ vs, u.oneCell' = true) (h4 : Cels w B0 vs l) : SO w base B0 A n c l :=
  ⟨vs, h1, h1.1, h2, h3, fun j x hx => by obtain ⟨A', c', ⟨r0, r1, r2, r3⟩, r4, r5⟩ := h4 j x hx; exact ⟨A', c', r0, r1, r2, r3, r4, r5⟩⟩
theorem SO.mono {w : World} {base base' B0 n c : Nat} {A : Option Addr} {l : List Gr.Stp} (h : SO w base B0 A n c l) (hb : base' ≤ base) : SO w base' B0 A n c l := by
  obtain ⟨vs, h1, h2, h3, h4⟩ := h.opened
  exact SO.shut ⟨h1.1, h1.2.imp id fun ⟨g, cap, cur, a, b, c⟩ => ⟨g, cap, cur, a, Nat.le_trans hb b, c⟩⟩ h2 h3 h4
theorem Cels.grown {w w' : World} {B0 : Nat} {vs : List Value} {l : List Gr.Stp} {row : Option Nat} (h : Cels w B0 vs l) (hg : w.grownBy w' row) (hr : ∀ k, row = some k → B0 ≤ k ∧ ∃ cs T fr, w.heap[k]? = some (.cells cs T fr) ∧ T ≠ 5) : Cels w' B0 vs l := fun j x hx => by
  obtain ⟨A', c', r0, r1, r2⟩ := h j x hx
  refine ⟨A', c', r0, r1, ?_⟩
  cases row with
  | none => exact r2.below ⟨hg.os, hg.tape, hg.output, hg.size, fun k hk => hg.block k hk (by simp)⟩
  | some k =>
    obtain ⟨hB, cs, T, fr, hh, hT⟩ := hr k rfl
    exact r2.grown hg hB hh hT
theorem Cels.below {w w' : World} {B0 : Nat} {vs : List Value} {l : List Gr.Stp} (h : Cels w B0 vs l) (hb : Below w.heap.size w w') : Cels w' B0 vs l := fun j x hx => by
  obtain ⟨A', c', r0, r1, r2⟩ := h j x hx
  exact ⟨A', c', r0, r1, r2.below hb⟩
theorem Cels.app {w : World} {B0 : Nat} {vs : List Value} {l : List Gr.Stp} (h : Cels w B0 vs l) {x : Gr.Stp} {A : Option Addr} {c : Nat} (hl : vs.length = l.length * 4) (hc : x.d.length ≤ c) (hx : Dat w B0 A x.d) : Cels w B0 (vs ++ stpCells x A c) (l ++ [x]) := fun j y hy => by
  rcases Nat.lt_or_ge j l.length with hj | hj
  · rw [List.getElem?_append_left hj] at hy
    obtain ⟨A', c', r0, r1, r2⟩ := h j y hy
    exact ⟨A', c', r0.left, r1, r2⟩
  · obtain rfl : j = l.length := by have := (List.getElem?_eq_some_iff.1 hy).1; simp at this; omega
    rw [List.getElem?_append_right (Nat.le_refl _), Nat.sub_self] at hy
    simp only [List.getElem?_cons_zero, Option.some.injEq] at hy
    subst hy
    exact ⟨A, c, StC.new vs _ x A c hl, hc, hx⟩
theorem one_app {vs : List Value} {x : Gr.Stp} {A : Option Addr} {c : Nat} (h : ∀ u ∈ vs, u.oneCell' = true) : ∀ u ∈ vs ++ stpCells x A c, u.oneCell' = true := fun u hu => by
  rcases List.mem_append.1 hu with hu | hu
  · exact h u hu
  · simp only [stpCells, List.mem_cons, List.not_mem_nil, or_false] at hu
    rcases hu with rfl | rfl | rfl | rfl <;> rfl
/-- the last step read -/
theorem SO.last_ {w : World} {base B0 n c : Nat} {A : Option Addr} {ini : List Gr.Stp} {x : Gr.Stp} (h : SO w base B0 A n c (ini ++ [x])) :
    ∃ g Al cl, A = some ⟨g, 0, none⟩ ∧ n = ini.length + 1 ∧ n ≤ c ∧ g < w.heap.size ∧ base ≤ g ∧ w.cell? ⟨g, ini.length * 4, none⟩ = some (.int .i64 x.k) ∧ w.cell? ⟨g, ini.length * 4 + 1, none⟩ = some (.int .i64 x.f) ∧ w.cell? ⟨g, ini.length * 4 + 2, none⟩ = some (.int .i64 x.l) ∧
    w.cell? ⟨g, ini.length * 4 + 3, none⟩ = some (.slice Al x.d.length cl) ∧ (∀ j, w.frozen? ⟨g, j, none⟩ = false) ∧ x.d.length ≤ cl ∧ Dat w B0 Al x.d := by
  obtain ⟨vs, h3, h4, h5, h6⟩ := h.opened
  have hn : n = ini.length + 1 := by rw [← h4]; simp
  obtain ⟨g, cap, hv, hg, hlt⟩ := World.ownsRow.form h3 (by omega)
  have hA : A = some ⟨g, 0, none⟩ := by injection hv
  subst hA
  obtain ⟨Al, cl, ⟨s0, s1, s2, s3⟩, r1, r2⟩ := h6 ini.length x (by simp)
  have cell : ∀ i u, vs[i]? = some u → w.cell? ⟨g, i, none⟩ = some u := fun i u hu => by
    rw [World.ownsRow.cellAt h3 i (by have := (List.getElem?_eq_some_iff.1 hu).1; have := h3.1; omega)]; exact hu
  exact ⟨g, Al, cl, rfl, hn, by rcases h3.2 with ⟨hv, h0⟩ | ⟨g', cap', cur, hv, _, _, hcap, _⟩
                                · omega
                                · injection hv with _ _ e; omega, hlt, hg, cell _ _ s0, cell _ _ s1, cell _ _ s2, cell _ _ s3, World.ownsRow.frozenAt h3, r1, r2⟩
theorem SO.setLen {w : World} {base B0 n c g : Nat} {A : Option Addr} {ini : List Gr.Stp} {x : Gr.Stp} (h : SO w base B0 A n c (ini ++ [x])) (hA : A = some ⟨g, 0, none⟩) (hB : B0 ≤ base) (v : Int) :
    SO (w.setCell ⟨g, ini.length * 4 + 2, none⟩ (.int .i64 v)) base B0 A n c (ini ++ [⟨x.k, x.f, v, x.d⟩]) := by
  obtain ⟨vs, h3, h4, h5, h6⟩ := h.opened
  subst hA
  obtain ⟨hgl, hgb, cu, fr, hgh⟩ := row_block h3 g rfl
  have hg := grown_setC w g (ini.length * 4 + 2) (.int .i64 v)
  have h7 := h6.grown hg (fun k hk => by injection hk with hk; subst hk; exact ⟨by omega, cu, _, fr, hgh, by decide⟩)
  refine SO.shut (World.ownsRow.stored h3 (ini.length * 4 + 2) (.int .i64 v)).1 (by simpa using h4) (fun u hu => ?_) (fun j y hy => ?_)
  · rcases List.mem_or_eq_of_mem_set hu with hu | rfl
    · exact h5 u hu
    · rfl
  · rcases Nat.lt_or_ge j ini.length with hj | hj
    · obtain ⟨A', c', q1, q2, q3⟩ := h7 j y (by rw [List.getElem?_append_left hj] at hy ⊢; exact hy)
      exact ⟨A', c', q1.set_other (by omega), q2, q3⟩
    · obtain rfl : j = ini.length := by have := (List.getElem?_eq_some_iff.1 hy).1; simp at this; omega
      rw [List.getElem?_append_right (Nat.le_refl _), Nat.sub_self] at hy
      simp only [List.getElem?_cons_zero, Option.some.injEq] at hy
      subst hy
      obtain ⟨A', c', ⟨s0, s1, s2, s3⟩, q2, q3⟩ := h7 ini.length x (by simp)
      refine ⟨A', c', ⟨?_, ?_, ?_, ?_⟩, q2, q3⟩
      · rw [List.getElem?_set_ne (by omega)]; exact s0
      · rw [List.getElem?_set_ne (by omega)]; exact s1
      · rw [List.getElem?_set_self (List.getElem?_eq_some_iff.1 s2).1]
      · rw [List.getElem?_set_ne (by omega)]; exact s3
theorem SO.setData {w : World} {base B0 n c g m c2 : Nat} {A A2 : Option Addr} {ini : List Gr.Stp} {x : Gr.Stp} {d2 : List UInt8} (h : SO w base B0 A n c (ini ++ [x])) (hA : A = some ⟨g, 0, none⟩) (hB : B0 ≤ base) (hm : d2.length = m) (hc : m ≤ c2) (hd : Dat w B0 A2 d2) :
    SO (w.setCell ⟨g, ini.length * 4 + 3, none⟩ (.slice A2 m c2)) base B0 A n c (ini ++ [⟨x.k, x.f, x.l, d2⟩]) := by
  obtain ⟨vs, h3, h4, h5, h6⟩ := h.opened
  subst hA
  subst hm
  obtain ⟨hgl, hgb, cu, fr, hgh⟩ := row_block h3 g rfl
  have hg := grown_setC w g (ini.length * 4 + 3) (.slice A2 d2.length c2)
  have h7 := h6.grown hg (fun k hk => by injection hk with hk; subst hk; exact ⟨by omega, cu, _, fr, hgh, by decide⟩)
  have hd2 := hd.grown hg (by omega) hgh (by decide)
  refine SO.shut (World.ownsRow.stored h3 (ini.length * 4 + 3) (.slice A2 d2.length c2)).1 (by simpa using h4) (fun u hu => ?_) (fun j y hy => ?_)
  · rcases List.mem_or_eq_of_mem_set hu with hu | rfl
    · exact h5 u hu
    · rfl
  · rcases Nat.lt_or_ge j ini.length with hj | hj
    · obtain ⟨A', c', q1, q2, q3⟩ := h7 j y (by rw [List.getElem?_append_left hj] at hy ⊢; exact hy)
      exact ⟨A', c', q1.set_other (by omega), q2, q3⟩
    · obtain rfl : j = ini.length := by have := (List.getElem?_eq_some_iff.1 hy).1; simp at this; omega
      rw [List.getElem?_append_right (Nat.le_refl _), Nat.sub_self] at hy
      simp only [List.getElem?_cons_zero, Option.some.injEq] at hy
      subst hy
      obtain ⟨A', c', ⟨s0, s1, s2, s3⟩, q2, q3⟩ := h7 ini.length x (by simp)
      refine ⟨A2, c2, ⟨?_, ?_, ?_, ?_⟩, hc, hd2⟩
      · rw [List.getElem?_set_ne (by omega)]; exact s0
      · rw [List.getElem?_set_ne (by omega)]; exact s1
      · rw [List.getElem?_set_ne (by omega)]; exact s2
      · rw [List.getElem?_set_self (List.getElem?_eq_some_iff.1 s3).1]
end Go.Proofs.YtmnanbcinfdbaaaDoor
end

section
namespace Go.Proofs.YtmnanbcinfdbaaaDoor
open Go.RowKit Go.Proofs.U
set_option linter.unusedVariables false
section
variable (base t g n c : Nat) (w : World)
set_option maxHeartbeats 1000000 in
theorem tlast_nil (A : Option Addr) (kd : Int) (h : Tr w base t A n c []) : Calls Tryd.prog 108 #[.pointer (some ⟨t, 0, none⟩), .int .i64 kd] w fun e w' => e = .returned (.pointer none) ∧ w = w' := by
  have hn := h.len
  simp at hn
  subst hn
  have c0 : w.cell? ⟨t, 0, none⟩ = some (.slice A 0 c) := Blk.cell h.1 0
  clear h
  go_enter Tryd.func108, Tryd.ntmps108
  go_wp2_with fail
  go_ret
  exact ⟨rfl, rfl⟩
set_option maxHeartbeats 1000000 in
theorem tlast_yes (ini : List Gr.Stp) (x : Gr.Stp) (kd : Int) (h : Tr w base t (some ⟨g, 0, none⟩) n c (ini ++ [x])) (hk : x.k = kd) (hn : n ≤ 1000000) :
    Calls Tryd.prog 108 #[.pointer (some ⟨t, 0, none⟩), .int .i64 kd] w fun e w' => e = .returned (.pointer (some ⟨g, ini.length * 4, none⟩)) ∧ w = w' := by
  obtain ⟨g', Al, cl, hA, rfl, hnc, hgl, hgb, c0, s0, s1, s2, s3, hfr, hown⟩ := h.last_
  injection hA with hA
  injection hA with hA
  subst hA
  rw [hk] at s0
  generalize ini.length = k at *
  have w1 : IntKind.i64.wrap (k : Int) = (k : Int) := wrap_nat_i64 (by omega)
  have w2 : IntKind.i64.wrap (((k + 1 : Nat) : Int) - 1) = (k : Int) := by rw [show ((k + 1 : Nat) : Int) - 1 = (k : Int) by omega]; exact w1
  have z1 : decide ((0 : Int) < ((k + 1 : Nat) : Int)) = true := by simp
  clear h hown s1 s2 s3 hfr hk
  go_enter Tryd.func108, Tryd.ntmps108
  go_wp2_with fail
  go_ret
  exact ⟨rfl, rfl⟩
set_option maxHeartbeats 1000000 in
theorem tlast_no (A : Option Addr) (ini : List Gr.Stp) (x : Gr.Stp) (kd : Int) (h : Tr w base t A n c (ini ++ [x])) (hk : x.k ≠ kd) (hn : n ≤ 1000000) :
    Calls Tryd.prog 108 #[.pointer (some ⟨t, 0, none⟩), .int .i64 kd] w fun e w' => e = .returned (.pointer none) ∧ w = w' := by
  obtain ⟨g', Al, cl, rfl, rfl, hnc, hgl, hgb, c0, s0, s1, s2, s3, hfr, hown⟩ := h.last_
  generalize x.k = xk at s0 hk
  generalize ini.length = k at *
  have w1 : IntKind.i64.wrap (k : Int) = (k : Int) := wrap_nat_i64 (by omega)
  have w2 : IntKind.i64.wrap (((k + 1 : Nat) : Int) - 1) = (k : Int) := by rw [show ((k + 1 : Nat) : Int) - 1 = (k : Int) by omega]; exact w1
  have z1 : decide ((0 : Int) < ((k + 1 : Nat) : Int)) = true := by simp
  have z2 : decide (xk = kd) = false := by simpa using hk
  have z3 : (xk == kd) = false := by simpa using hk
  clear h hown s1 s2 s3 hfr hk
  go_enter Tryd.func108, Tryd.ntmps108
  go_wp2_with fail
  go_ret
  exact ⟨rfl, rfl⟩
end
/-- copies of small numbers -/
def Cps (l : List Gr.Stp) : Prop := ∀ x ∈ l, x.k = 1 → 0 ≤ x.f ∧ x.f ≤ 1000000 ∧ 0 ≤ x.l ∧ x.l ≤ 1000000
section
variable (base t n c : Nat) (w : World)
set_option maxHeartbeats 2000000 in
theorem tnext_any (A : Option Addr) (l : List Gr.Stp) (s : Nat) (h : Tr w base t A n c l) (hc : Cps l) (hs : 1 ≤ s) (hs2 : s ≤ 1000000) (hn : n ≤ 1000000) :
    Calls Tryd.prog 78 #[.pointer (some ⟨t, 0, none⟩), .int .i64 (s : Int)] w fun e w' => e = .returned (.int .i64 (nxt l s)) ∧ Drawn w w' := by
  rcases last_cases l with rfl | ⟨ini, x, rfl⟩
  · have hl := tlast_nil base t n c w A 1 h
    rw [show nxt [] s = -1 from rfl]
    clear h
    go_enter Tryd.func78, Tryd.ntmps78
    go_wp2_with (go_at_call 108; refine hl.mono ?_; rintro e w' ⟨rfl, rfl⟩)
    go_ret
    exact ⟨rfl, 0, rfl⟩
  · by_cases hk : x.k = 1
    · have hb := hc x (by simp) hk
      obtain ⟨g, Al, cl, rfl, hn1, hnc, hgl, hgb, c0, s0, s1, s2, s3, hfr, hown⟩ := h.last_
      have hl := tlast_yes base t g n c w ini x 1 h hk hn
      have hx : nxt (ini ++ [x]) s = (x.f + x.l).tdiv (s : Int) := by
        unfold nxt
        rw [List.getLast?_concat]
        simp only
        rw [if_pos hk]
      rw [hx]
      generalize x.f = f at *
      generalize x.l = m at *
      obtain ⟨b1, b2, b3, b4⟩ := hb
      have w1 : IntKind.i64.wrap (f + m) = f + m := by rw [IntKind.wrap_i64]; omega
      have w2 : IntKind.i64.wrap ((f + m).tdiv (s : Int)) = (f + m).tdiv (s : Int) := by
        rw [Int.tdiv_eq_ediv_of_nonneg (by omega)]
        have h1 : (f + m) / (s : Int) ≤ f + m := Int.ediv_le_self _ (by omega)
        have h2 : 0 ≤ (f + m) / (s : Int) := Int.ediv_nonneg (by omega) (by omega)
        rw [IntKind.wrap_i64]; omega
      have z1 : decide ((s : Int) = 0) = false := by simp; omega
      have z2 : ((s : Int) == 0) = false := by simp; omega
      clear h hown s0 s3 hfr hx hk hc
      go_enter Tryd.func78, Tryd.ntmps78
      go_wp2_with (go_at_call 108; refine hl.mono ?_; rintro e w' ⟨rfl, rfl⟩)
      go_quiet (fail)
      go_wp2_with fail
      go_ret
      exact ⟨rfl, _, rfl⟩
    · have hl := tlast_no base t n c w A ini x 1 h hk hn
      have hx : nxt (ini ++ [x]) s = -1 := by
        unfold nxt
        rw [List.getLast?_concat]
        simp only
        rw [if_neg hk]
      rw [hx]
      clear h hx hk
      go_enter Tryd.func78, Tryd.ntmps78
      go_wp2_with (go_at_call 108; refine hl.mono ?_; rintro e w' ⟨rfl, rfl⟩)
      go_ret
      exact ⟨rfl, 0, rfl⟩
/-- what a method leaves of a trail -/
def TrRet (w : World) (base t B : Nat) (l : List Gr.Stp) (e : Ending) (w' : World) : Prop := e = .returned (.tuple #[]) ∧ (∃ A n c, Tr w' base t A n c l) ∧ Below B w w' ∧ Spare t w w'
/-- what the walk of an append of one step owes -/
theorem app_facts (A : Option Addr) (vs : List Value) (h1 : Blk w t 106 #[.slice A n c]) (h2 : base ≤ t) (h3 : w.ownsRow base 68 4 (.slice A n c) n vs) (k f l : Int) :
    (∀ q, ((w.drewN q).alloc (.cells #[.int .i64 k, .int .i64 f, .int .i64 l, .slice none 0 0] 68)).ownsRow base 68 4 (.slice A n c) n vs) ∧
    (∀ q, ∀ j u, (stpCells ⟨k, f, l, []⟩ none 0)[j]? = some u → ((w.drewN q).alloc (.cells #[.int .i64 k, .int .i64 f, .int .i64 l, .slice none 0 0] 68)).cell? ((⟨w.heap.size, 0, none⟩ : Addr).add j) = some u) ∧
    (∀ q, base ≤ ((w.drewN q).alloc (.cells #[.int .i64 k, .int .i64 f, .int .i64 l, .slice none 0 0] 68)).heap.size) ∧
    (∀ q, Blk ((w.drewN q).alloc (.cells #[.int .i64 k, .int .i64 f, .int .i64 l, .slice none 0 0] 68)) t 106 #[.slice A n c]) := by
  refine ⟨fun q => World.ownsRow.alloc (w := w.drewN q) h3 _, fun q j u hu => ?_, fun q => ?_, fun q => Blk.alloc (w := w.drewN q) h1 _⟩
  · have hh := (Blk.new (w.drewN q) 68 #[.int .i64 k, .int .i64 f, .int .i64 l, .slice none 0 0])
    have hh' : Blk ((w.drewN q).alloc (.cells #[.int .i64 k, .int .i64 f, .int .i64 l, .slice none 0 0] 68)) w.heap.size 68 #[.int .i64 k, .int .i64 f, .int .i64 l, .slice none 0 0] := hh
    rw [addr_add, Nat.zero_add, hh'.cell]
    rw [← List.getElem?_toArray] at hu
    exact hu
  · have := Blk.lt h1
    have hz : (w.drewN q).heap.size = w.heap.size := rfl
    rw [World.size_alloc, hz]; omega
theorem row_not_t (A : Option Addr) (vs : List Value) (h1 : Blk w t 106 #[.slice A n c]) (h3 : w.ownsRow base 68 4 (.slice A n c) n vs) : some t ≠ (Value.slice A n c).ownBlock := fun e => by
  obtain ⟨_, _, cur, fr, hh⟩ := row_block h3 t e.symm
  exact absurd rfl (row_ne hh h1 (by decide))
/-- a step appended: the trail behind it -/
theorem app_done (A : Option Addr) (l : List Gr.Stp) (vs : List Value) (h1 : Blk w t 106 #[.slice A n c]) (h2 : base ≤ t) (h3 : w.ownsRow base 68 4 (.slice A n c) n vs) (h4 : l.length = n) (h5 : ∀ u ∈ vs, u.oneCell' = true) (h6 : Lst w base vs l) (k f m : Int) (q : Nat)
    {w2 : World} {A2 : Option Addr} {c2 : Nat} (hg : World.grownBy ((w.drewN q).alloc (.cells #[.int .i64 k, .int .i64 f, .int .i64 m, .slice none 0 0] 68)) w2 (Value.slice A n c).ownBlock) (ho : w2.ownsRow base 68 4 (.slice A2 (n + 1) c2) (n + 1) (vs ++ stpCells ⟨k, f, m, []⟩ none 0)) (B : Nat) (hB : B ≤ base) :
    Tr (w2.setCell ⟨t, 0, none⟩ (.slice A2 (n + 1) c2)) base t A2 (n + 1) c2 (l ++ [⟨k, f, m, []⟩]) ∧ Below B w (w2.setCell ⟨t, 0, none⟩ (.slice A2 (n + 1) c2)) ∧ Spare t w (w2.setCell ⟨t, 0, none⟩ (.slice A2 (n + 1) c2)) := by
  have hg0 : w.grownBy ((w.drewN q).alloc (.cells #[.int .i64 k, .int .i64 f, .int .i64 m, .slice none 0 0] 68)) none := only_alloc (only_drewN (World.grownBy.refl w none) q) _
  have hbt : B ≤ w.heap.size := by have := Blk.lt h1; omega
  have hb0 : Below B w ((w.drewN q).alloc (.cells #[.int .i64 k, .int .i64 f, .int .i64 m, .slice none 0 0] 68)) := (below_drewN (Below.refl B w) q).alloc hbt _
  have hb1 : Below B w w2 := hb0.grown hg (Nat.le_trans hbt hb0.size) (fun k hk => by obtain ⟨_, h, _⟩ := row_block h3 k hk; omega)
  refine ⟨Tr.app (Blk.alloc (w := w.drewN q) h1 _) h2 (World.ownsRow.alloc (w := w.drewN q) h3 _) h4 h5 (h6.kept hg0 (fun k hk => by cases hk)) ⟨k, f, m, []⟩ rfl hg ho, ?_, ?_⟩
  · exact hb1.grown (grown_setC w2 t 0 _) (Nat.le_trans hbt hb1.size) (fun k hk => by injection hk; omega)
  · refine ((Spare.grown hg0 (fun k hk => by cases hk)).trans (Spare.grown hg fun j hj => ?_)).trans (Spare.grown (grown_setC w2 t 0 _) (fun j hj => by injection hj with hj; exact .inl hj.symm))
    obtain ⟨_, _, cur, fr, hh⟩ := row_block (World.ownsRow.alloc (w := w.drewN q) h3 (.cells #[.int .i64 k, .int .i64 f, .int .i64 m, .slice none 0 0] 68)) j hj
    exact .inr ⟨cur, _, fr, hh, .inl rfl⟩
theorem copyS_app (l : List Gr.Stp) (o m : Int) (h : ∀ x, l.getLast? = some x → ¬ (x.k = 1 ∧ x.f + x.l = o)) : copyS l o m = l ++ [⟨1, o, m, []⟩] := by
  unfold copyS
  cases hl : l.getLast? with
  | none => rw [List.getLast?_eq_none_iff.1 hl]; rfl
  | some x => simp only; rw [if_neg (h x hl)]
set_option maxRecDepth 100000 in
set_option maxHeartbeats 4000000 in
theorem copied_any (A : Option Addr) (l : List Gr.Stp) (o m : Int) (B : Nat) (h : Tr w base t A n c l) (hc : Cps l) (hm0 : 0 ≤ m) (hm : m ≤ 1000000) (hn : n ≤ 1000000) (hB : B ≤ base) :
    Calls Tryd.prog 80 #[.pointer (some ⟨t, 0, none⟩), .int .i64 o, .int .i64 m] w (TrRet w base t B (copyS l o m)) := by
  have hq : (n + 1) * 48 ≤ 140737488355328 := by omega
  have hq2 : n + 1 ≤ maxLen := by unfold maxLen; omega
  have HT := Lib.hid h
  have hone : ∀ u ∈ stpCells ⟨1, o, m, []⟩ none 0, u.oneCell' = true := fun u hu => by
    simp only [stpCells, List.mem_cons, List.not_mem_nil, or_false] at hu
    rcases hu with rfl | rfl | rfl | rfl <;> rfl
  have HO := Lib.hid hone
  obtain ⟨h1, h2, vs, h3, h4, h5, h6⟩ := h
  have HV := Lib.hid (app_facts base t n c w A vs h1 h2 h3 1 o m)
  have HN := Lib.hid (row_not_t base t n c w A vs h1 h3)
  have HD := Lib.hid (fun q w2 A2 c2 hg ho => app_done base t n c w A l vs h1 h2 h3 h4 h5 h6 1 o m q (w2 := w2) (A2 := A2) (c2 := c2) hg ho B hB)
  have c0 : w.cell? ⟨t, 0, none⟩ = some (.slice A n c) := Blk.cell h1 0
  clear hone h5 h6 h3 h1 h4
  rcases last_cases l with rfl | ⟨ini, x, rfl⟩
  · have hl := tlast_nil base t n c w A 1 HT.out
    rw [copyS_app [] o m (by simp)]
    go_enter Tryd.func80, Tryd.ntmps80
    go_wp2_with (go_at_call 108; refine hl.mono ?_; rintro e w' ⟨rfl, rfl⟩)
    go_quiet (fail)
    go_wp2_with (at_builtin; refine wpList_app4 Tryd.underlying65 infoS rfl rfl (.tmp 36) (.tmp 40) rfl base A n c vs rfl (HV.out.1 _) ⟨w.heap.size, 0, none⟩ 1 1 (stpCells ⟨1, o, m, []⟩ none 0) rfl rfl (HV.out.2.1 _) HO.out hq hq2 (HV.out.2.2.1 _) ?_; intro A2 c2 w2 hown2 hg2 _; have hk2 := Blk.grown (HV.out.2.2.2 _) hg2 HN.out; have e0 := hk2.cell 0; have e1 := hk2.frozen 0; simp at e0)
    obtain ⟨f1, f2, f3⟩ := HD.out _ w2 A2 c2 hg2 hown2
    exact bodyPost_ret (results_none rfl _ _ _) rfl ⟨rfl, ⟨_, _, _, f1⟩, f2, f3⟩
  · by_cases hk : x.k = 1
    · have hb := hc x (by simp) hk
      obtain ⟨g, Al, cl, rfl, hn1, hnc, hgl, hgb, hc0, s0, s1, s2, s3, hfr, hown⟩ := HT.out.last_
      clear hn1 hc0
      have hl := tlast_yes base t g n c w ini x 1 HT.out hk hn
      have hfr2 := hfr (ini.length * 4 + 2)
      by_cases ho : x.f + x.l = o
      · have hx : copyS (ini ++ [x]) o m = ini ++ [⟨x.k, x.f, x.l + m, x.d⟩] := by
          unfold copyS
          rw [List.getLast?_concat]
          simp only
          rw [if_pos ⟨hk, ho⟩, List.dropLast_concat, hk]
        have HS := fun q => Tr.setLen (w := w.drewN q) HT.out rfl (x.l + m)
        rw [hx]
        have HS' := Lib.hid HS
        clear HS hx hk hc HD HV HN HO s0 s3 hown hfr
        generalize x.f = f at *
        generalize x.l = xl at *
        obtain ⟨b1, b2, b3, b4⟩ := hb
        have w1 : IntKind.i64.wrap (f + xl) = f + xl := by rw [IntKind.wrap_i64]; omega
        have w2 : IntKind.i64.wrap (xl + m) = xl + m := by rw [IntKind.wrap_i64]; omega
        have z1 : decide (f + xl = o) = true := by simpa using ho
        have z2 : (f + xl == o) = true := by simpa using ho
        go_enter Tryd.func80, Tryd.ntmps80
        go_wp2_with (go_at_call 108; refine hl.mono ?_; rintro e w' ⟨rfl, rfl⟩)
        go_quiet (fail)
        go_wp2_with fail
        have hgS : ∃ cu fr, w.heap[g]? = some (.cells cu 68 fr) := by
          obtain ⟨_, _, vs', r3, _⟩ := HT.out
          exact (row_block r3 g rfl).2.2
        obtain ⟨cu, fr, hgS⟩ := hgS
        have hgr := grown_setC (w.drewN nq) g (ini.length * 4 + 2) (.int .i64 (xl + m))
        have hsz : (w.drewN nq).heap.size = w.heap.size := rfl
        refine bodyPost_ret (results_none rfl _ _ _) rfl ⟨rfl, ⟨_, _, _, HS'.out nq⟩, (below_drewN (Below.refl B w) nq).grown hgr (by rw [hsz]; omega) (fun k hk => by injection hk; omega), ?_⟩
        exact (Spare.below (below_drewN (Below.refl _ w) nq)).trans (Spare.grown hgr (fun k hk => by injection hk with hk; subst hk; exact .inr ⟨cu, _, fr, hgS, .inl rfl⟩))
      · have hx := copyS_app (ini ++ [x]) o m (by rw [List.getLast?_concat]; rintro y hy; injection hy with hy; subst hy; exact fun h => ho h.2)
        rw [hx]
        clear hx hk hc s0 s3 hown hfr
        generalize x.f = f at *
        generalize x.l = xl at *
        obtain ⟨b1, b2, b3, b4⟩ := hb
        have w1 : IntKind.i64.wrap (f + xl) = f + xl := by rw [IntKind.wrap_i64]; omega
        have z1 : decide (f + xl = o) = false := by simpa using ho
        have z2 : (f + xl == o) = false := by simpa using ho
        go_enter Tryd.func80, Tryd.ntmps80
        go_wp2_with (go_at_call 108; refine hl.mono ?_; rintro e w' ⟨rfl, rfl⟩)
        go_quiet (fail)
        go_wp2_with (at_builtin; refine wpList_app4 Tryd.underlying65 infoS rfl rfl (.tmp 36) (.tmp 40) rfl base (some ⟨g, 0, none⟩) n c vs rfl (HV.out.1 _) ⟨w.heap.size, 0, none⟩ 1 1 (stpCells ⟨1, o, m, []⟩ none 0) rfl rfl (HV.out.2.1 _) HO.out hq hq2 (HV.out.2.2.1 _) ?_; intro A2 c2 w2 hown2 hg2 _; have hk2 := Blk.grown (HV.out.2.2.2 _) hg2 HN.out; have e0 := hk2.cell 0; have e1 := hk2.frozen 0; simp at e0)
        obtain ⟨f1, f2, f3⟩ := HD.out _ w2 A2 c2 hg2 hown2
        exact bodyPost_ret (results_none rfl _ _ _) rfl ⟨rfl, ⟨_, _, _, f1⟩, f2, f3⟩
    · have hl := tlast_no base t n c w A ini x 1 HT.out hk hn
      have hx := copyS_app (ini ++ [x]) o m (by rw [List.getLast?_concat]; rintro y hy; injection hy with hy; subst hy; exact fun h => hk h.1)
      rw [hx]
      clear hx hk hc
      go_enter Tryd.func80, Tryd.ntmps80
      go_wp2_with (go_at_call 108; refine hl.mono ?_; rintro e w' ⟨rfl, rfl⟩)
      go_quiet (fail)
      go_wp2_with (at_builtin; refine wpList_app4 Tryd.underlying65 infoS rfl rfl (.tmp 36) (.tmp 40) rfl base A n c vs rfl (HV.out.1 _) ⟨w.heap.size, 0, none⟩ 1 1 (stpCells ⟨1, o, m, []⟩ none 0) rfl rfl (HV.out.2.1 _) HO.out hq hq2 (HV.out.2.2.1 _) ?_; intro A2 c2 w2 hown2 hg2 _; have hk2 := Blk.grown (HV.out.2.2.2 _) hg2 HN.out; have e0 := hk2.cell 0; have e1 := hk2.frozen 0; simp at e0)
      obtain ⟨f1, f2, f3⟩ := HD.out _ w2 A2 c2 hg2 hown2
      exact bodyPost_ret (results_none rfl _ _ _) rfl ⟨rfl, ⟨_, _, _, f1⟩, f2, f3⟩
end
end Go.Proofs.YtmnanbcinfdbaaaDoor
end
