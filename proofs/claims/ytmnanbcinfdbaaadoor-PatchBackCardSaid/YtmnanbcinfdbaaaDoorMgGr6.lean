/- Slices of steps: read, and built by append; conditions: none beyond their hypotheses. The walk of the reference's Same at equal steps; conditions: none beyond its hypotheses. -/
import Derived.Test.YtmnanbcinfdbaaaDoorMgGr3
import Derived.Test.YtmnanbcinfdbaaaDoorMgSl
set_option linter.unusedSimpArgs false
set_option linter.unusedVariables false
section
namespace Go.Proofs.YtmnanbcinfdbaaaDoor
open Go.RowKit Go.Proofs.U
set_option linter.unusedVariables false

/-- a slice of steps, as it reads -/
def SP (w : World) (A : Option Addr) (n : Nat) (l : List Gr.Stp) : Prop :=
  l.length = n ∧ (0 < n → ∃ b off, A = some ⟨b, off, none⟩ ∧ b < w.heap.size ∧ ∀ (j : Nat) (x : Gr.Stp), l[j]? = some x → ∃ A' c', w.cell? ⟨b, off + j * 4, none⟩ = some (.int .i64 x.k) ∧ w.cell? ⟨b, off + j * 4 + 1, none⟩ = some (.int .i64 x.f) ∧
    w.cell? ⟨b, off + j * 4 + 2, none⟩ = some (.int .i64 x.l) ∧ w.cell? ⟨b, off + j * 4 + 3, none⟩ = some (.slice A' x.d.length c') ∧ x.d.length ≤ c' ∧ BS w w.heap.size A' x.d.length x.d)
theorem SP.nil (w : World) (A : Option Addr) : SP w A 0 [] := ⟨rfl, fun h => absurd h (by omega)⟩
theorem SP.below {w w' : World} {A : Option Addr} {n : Nat} {l : List Gr.Stp} (h : SP w A n l) (hb : Below w.heap.size w w') : SP w' A n l := by
  refine ⟨h.1, fun hn => ?_⟩
  obtain ⟨b, off, e, hlt, hc⟩ := h.2 hn
  refine ⟨b, off, e, Nat.lt_of_lt_of_le hlt hb.size, fun j x hx => ?_⟩
  obtain ⟨A', c', h0, h1, h2, h3, h4, h5⟩ := hc j x hx
  exact ⟨A', c', (hb.cell (p := ⟨b, _, none⟩) hlt).trans h0, (hb.cell (p := ⟨b, _, none⟩) hlt).trans h1, (hb.cell (p := ⟨b, _, none⟩) hlt).trans h2, (hb.cell (p := ⟨b, _, none⟩) hlt).trans h3, h4, (h5.below hb).more hb.size⟩
theorem SP.drewN {w : World} {A : Option Addr} {n : Nat} {l : List Gr.Stp} (h : SP w A n l) (q : Nat) : SP (w.drewN q) A n l := h
theorem SP.at_ {w : World} {A : Option Addr} {n k : Nat} {l : List Gr.Stp} (h : SP w A n l) (hk : k < n) :
    ∃ b off x A' c', A = some ⟨b, off, none⟩ ∧ b < w.heap.size ∧ l[k]? = some x ∧ w.cell? ⟨b, off + k * 4, none⟩ = some (.int .i64 x.k) ∧ w.cell? ⟨b, off + k * 4 + 1, none⟩ = some (.int .i64 x.f) ∧
    w.cell? ⟨b, off + k * 4 + 2, none⟩ = some (.int .i64 x.l) ∧ w.cell? ⟨b, off + k * 4 + 3, none⟩ = some (.slice A' x.d.length c') ∧ x.d.length ≤ c' ∧ BS w w.heap.size A' x.d.length x.d := by
  obtain ⟨b, off, e, hlt, hc⟩ := h.2 (by omega)
  have hl := h.1
  obtain ⟨A', c', r⟩ := hc k l[k] (by simp)
  exact ⟨b, off, l[k], A', c', e, hlt, by simp, r⟩

/-- append of cells, four an element, to a row of the call's own -/
theorem run_app4 {P : Program} {w : World} {t e : TypeId} {z : Value} {by_ : Nat} (ht : P.underlying t = some (.slice e)) (hI : (P.info? e).map (fun i => (i.zero, i.size, i.bytes)) = some (some z, 4, by_)) (hz1 : z.cells.size = 4) (ty : TypeId) (base : Nat)
    (A : Option Addr) (n c : Nat) (vs : List Value) (hown : w.ownsRow base e 4 (.slice A n c) n vs)
    (ad : Addr) (m c' : Nat) (vs' : List Value) (hl : vs'.length = m * 4) (hcell : ∀ j u, vs'[j]? = some u → w.cell? (ad.add j) = some u) (h1 : ∀ u ∈ vs', u.oneCell' = true) (hlen : (n + m) * by_ ≤ 140737488355328) (hmax : n + m ≤ maxLen) (hbase : base ≤ w.heap.size) :
    ∃ A2 c2 w2, (Builtin.append_ #[t, t] ty #[.slice A n c, .slice (some ad) m c']).run P w = .ok (.slice A2 (n + m) c2) w2 ∧ w2.ownsRow base e 4 (.slice A2 (n + m) c2) (n + m) (vs ++ vs') ∧
      w.grownBy w2 (Value.slice A n c).ownBlock ∧ ((Value.slice A2 (n + m) c2).ownBlock = (Value.slice A n c).ownBlock ∨ (Value.slice A2 (n + m) c2).ownBlock = some w.heap.size) := by
  obtain ⟨i, hi, hz, hs, hb⟩ := info_parts hI
  obtain ⟨v', w', hrun, h2, h3, _, h5⟩ := run_append_own_at (P := P) w base t ty e i z 4 by_ ht hi hz hs hb hz1 (by omega) _ n _ hown ad m c' vs' hl
        hcell h1 hmax hlen hbase
  rcases h2.2 with ⟨rfl, h0⟩ | ⟨g, cap, cur, rfl, _⟩
  · exact ⟨none, 0, w', by rw [h0]; exact hrun, by rw [h0] at h2 ⊢; exact h2, h3, by rw [h0]; exact h5⟩
  · exact ⟨_, _, w', hrun, h2, h3, h5⟩
theorem wpList_app4 {P : Program} {w : World} {t e : TypeId} {z : Value} {by_ : Nat} (ht : P.underlying t = some (.slice e)) (hI : (P.info? e).map (fun i => (i.zero, i.size, i.bytes)) = some (some z, 4, by_)) (hz1 : z.cells.size = 4)
    {ops : Array Oper} {rest : List Oper} {o : Oper} {a : Act} {Q : Exit → Act → World → Prop} (hgd : o.guard = none) (s x : Operand)
    (ho : o.op = .call { callee := .builtin .append, args := #[s, x], argTypes := #[t, t] })
    (base : Nat) (A : Option Addr) (n c : Nat) (vs : List Value) (hs : a.eval s = .slice A n c) (hown : w.ownsRow base e 4 (.slice A n c) n vs)
    (ad : Addr) (m c' : Nat) (vs' : List Value) (hx : a.eval x = .slice (some ad) m c') (hl : vs'.length = m * 4) (hcell : ∀ j u, vs'[j]? = some u → w.cell? (ad.add j) = some u) (h1 : ∀ u ∈ vs', u.oneCell' = true) (hlen : (n + m) * by_ ≤ 140737488355328) (hmax : n + m ≤ maxLen) (hbase : base ≤ w.heap.size)
    (h : ∀ A2 c2 w2, w2.ownsRow base e 4 (.slice A2 (n + m) c2) (n + m) (vs ++ vs') → w.grownBy w2 (Value.slice A n c).ownBlock → ((Value.slice A2 (n + m) c2).ownBlock = (Value.slice A n c).ownBlock ∨ (Value.slice A2 (n + m) c2).ownBlock = some w.heap.size) →
      wpList P ops Q rest (a.put o.dst (.slice A2 (n + m) c2)) w2) : wpList P ops Q (o :: rest) a w :=
  wpList_plain hgd fun _ hK => by
    obtain ⟨A2, c2, w2, hrun, h2, h3, h4⟩ := run_app4 (w := w) ht hI hz1 o.type base A n c vs hown ad m c' vs' hl hcell h1 hlen hmax hbase
    unfold Oper.wp execOp
    simp only [ho, resolve, invoke, builtin, Sem.run_bind, Sem.run_pure, Result.andThen_ok, List.map_toArray, List.map_cons, List.map_nil, hs, hx, hrun]
    exact hK _ _ (h A2 c2 w2 h2 h3 h4)

theorem infoS : (Tryd.prog.info? 68).map (fun i => (i.zero, i.size, i.bytes)) = some (some (.agg #[.int .i64 0, .int .i64 0, .int .i64 0, .slice none 0 0]), 4, 48) := by kernel_rfl
/-- a slice of steps that the call made -/
def SO (w : World) (base B0 : Nat) (A : Option Addr) (n c : Nat) (l : List Gr.Stp) : Prop :=
  ∃ vs : List Value, w.ownsRow base 68 4 (.slice A n c) n vs ∧ vs.length = n * 4 ∧ l.length = n ∧ (∀ u ∈ vs, u.oneCell' = true) ∧ ∀ (j : Nat) (x : Gr.Stp), l[j]? = some x → ∃ A' c', vs[j * 4]? = some (.int .i64 x.k) ∧ vs[j * 4 + 1]? = some (.int .i64 x.f) ∧
    vs[j * 4 + 2]? = some (.int .i64 x.l) ∧ vs[j * 4 + 3]? = some (.slice A' x.d.length c') ∧ x.d.length ≤ c' ∧ Dat w B0 A' x.d
theorem SO.nil (w : World) (base B0 : Nat) : SO w base B0 none 0 0 [] := ⟨[], World.ownsRow_nil w base _ 4, rfl, rfl, by simp, fun j x h => by simp at h⟩
theorem SO.len {w : World} {base B0 n c : Nat} {A : Option Addr} {l : List Gr.Stp} (h : SO w base B0 A n c l) : l.length = n := by obtain ⟨_, _, _, h, _⟩ := h; exact h
theorem SO.below {w w' : World} {base B0 n c : Nat} {A : Option Addr} {l : List Gr.Stp} (h : SO w base B0 A n c l) (hb : Below w.heap.size w w') : SO w' base B0 A n c l := by
  obtain ⟨vs, h1, h2, h3, h4, h5⟩ := h
  refine ⟨vs, World.ownsRow.kept (row := none) h1 ⟨hb.os, hb.tape, hb.output, hb.size, fun k hk _ => hb.block k hk⟩ ?_, h2, h3, h4, fun j x hx => ?_⟩
  · cases A with
    | none => exact .inl rfl
    | some a => exact .inr (by simp [Value.ownBlock])
  · obtain ⟨A', c', r0, r1, r2, r3, r4, r5⟩ := h5 j x hx
    exact ⟨A', c', r0, r1, r2, r3, r4, r5.below hb⟩
theorem SO.sp {w : World} {base B0 n c : Nat} {A : Option Addr} {l : List Gr.Stp} (h : SO w base B0 A n c l) : SP w A n l := by
  obtain ⟨vs, h1, h2, h3, h4, h5⟩ := h
  refine ⟨h3, fun hn => ?_⟩
  obtain ⟨g, cap, hv, _, hlt⟩ := World.ownsRow.form h1 hn
  have hA : A = some ⟨g, 0, none⟩ := by injection hv
  subst hA
  refine ⟨g, 0, rfl, hlt, fun j x hx => ?_⟩
  obtain ⟨A', c', r0, r1, r2, r3, r4, r5⟩ := h5 j x hx
  have cell : ∀ i u, vs[i]? = some u → w.cell? ⟨g, 0 + i, none⟩ = some u := fun i u hu => by
    have := World.ownsRow.cells (g := g) h1 rfl i u hu
    rw [addr_add] at this
    exact this
  refine ⟨A', c', cell _ _ r0, ?_, ?_, ?_, r4, r5.1⟩
  · rw [Nat.add_assoc]; exact cell _ _ r1
  · rw [Nat.add_assoc]; exact cell _ _ r2
  · rw [Nat.add_assoc]; exact cell _ _ r3
def stpCells (x : Gr.Stp) (A : Option Addr) (c : Nat) : List Value := [.int .i64 x.k, .int .i64 x.f, .int .i64 x.l, .slice A x.d.length c]
/-- the row grown by one step -/
theorem SO.app {w w' : World} {base B0 n c c' : Nat} {A A2 A' : Option Addr} {l : List Gr.Stp} {x : Gr.Stp} {cx : Nat} {vs : List Value} (h1 : w.ownsRow base 68 4 (.slice A n c) n vs) (h2 : vs.length = n * 4) (h3 : l.length = n) (h4 : ∀ u ∈ vs, u.oneCell' = true)
    (h5 : ∀ (j : Nat) (x : Gr.Stp), l[j]? = some x → ∃ A' c', vs[j * 4]? = some (.int .i64 x.k) ∧ vs[j * 4 + 1]? = some (.int .i64 x.f) ∧ vs[j * 4 + 2]? = some (.int .i64 x.l) ∧ vs[j * 4 + 3]? = some (.slice A' x.d.length c') ∧ x.d.length ≤ c' ∧ Dat w B0 A' x.d)
    (hx : Dat w B0 A' x.d) (hcx : x.d.length ≤ cx) (hB : B0 ≤ base) (hg : w.grownBy w' (Value.slice A n c).ownBlock) (hown : w'.ownsRow base 68 4 (.slice A2 (n + 1) c') (n + 1) (vs ++ stpCells x A' cx)) : SO w' base B0 A2 (n + 1) c' (l ++ [x]) := by
  have keep : ∀ A bs, Dat w B0 A bs → Dat w' B0 A bs := fun A0 bs hd => by
    rcases h1.2 with ⟨hv, _⟩ | ⟨g, cap, cur, hv, hbg, hh, _⟩
    · rw [hv] at hg
      exact hd.below ⟨hg.os, hg.tape, hg.output, hg.size, fun k hk => hg.block k hk (by simp [Value.ownBlock])⟩
    · rw [hv] at hg
      have hg' : w.grownBy w' (some g) := hg
      exact hd.grown hg' (by omega) hh (by decide)
  refine ⟨_, hown, by simp [h2, stpCells]; omega, by simp [h3], fun u hu => ?_, fun j y hy => ?_⟩
  · rcases List.mem_append.1 hu with hu | hu
    · exact h4 u hu
    · simp only [stpCells, List.mem_cons, List.not_mem_nil, or_false] at hu
      rcases hu with rfl | rfl | rfl | rfl <;> rfl
  · by_cases hj : j < n
    · rw [List.getElem?_append_left (by omega)] at hy
      obtain ⟨A', c', r0, r1, r2, r3, r4, r5⟩ := h5 j y hy
      exact ⟨A', c', by rw [List.getElem?_append_left (by omega)]; exact r0, by rw [List.getElem?_append_left (by omega)]; exact r1, by rw [List.getElem?_append_left (by omega)]; exact r2, by rw [List.getElem?_append_left (by omega)]; exact r3, r4, keep _ _ r5⟩
    · rw [List.getElem?_append_right (by omega)] at hy
      have hj0 : j = n := by have := (List.getElem?_eq_some_iff.1 hy).1; simp at this; omega
      subst hj0
      rw [h3, Nat.sub_self] at hy
      simp only [List.getElem?_cons_zero, Option.some.injEq] at hy
      subst hy
      refine ⟨A', cx, ?_, ?_, ?_, ?_, hcx, keep _ _ hx⟩
      · rw [List.getElem?_append_right (by omega), h2, Nat.sub_self]; rfl
      · rw [List.getElem?_append_right (by omega), h2, Nat.add_sub_cancel_left]; rfl
      · rw [List.getElem?_append_right (by omega), h2, Nat.add_sub_cancel_left]; rfl
      · rw [List.getElem?_append_right (by omega), h2, Nat.add_sub_cancel_left]; rfl
end Go.Proofs.YtmnanbcinfdbaaaDoor
end

section
namespace Go.Proofs.YtmnanbcinfdbaaaDoor
open Go.RowKit Go.Proofs.U
set_option linter.unusedVariables false

set_option maxRecDepth 100000 in
set_option maxHeartbeats 4000000 in
theorem rsame_eq (A B : Option Addr) (n m ca cb : Nat) (l : List Gr.Stp) (w : World) (ha : SP w A n l) (hb : SP w B m l) (hn : n ≤ 1000000000) :
    Calls Tryd.prog 47 #[.slice A n ca, .slice B m cb] w fun e w' => e = .returned (.bool true) ∧ Drawn w w' := by
  have hnm : n = m := ha.1.symm.trans hb.1
  subst hnm
  have hnn : ((n : Int) != (n : Int)) = false := by simp
  have hm : n ≤ maxLen ∨ True := .inr trivial
  go_enter Tryd.func47, Tryd.ntmps47
  go_wp2_with fail
  clear hnn
  go_loopg [5] n (fun r i wr => ∃ k : Nat, r + k = n ∧ i = .int .i64 k ∧ Drawn w wr)
  case atStart => exact ⟨0, rfl, rfl, Drawn.refl _⟩
  case round =>
    obtain ⟨k, hgk, rfl, hdr⟩ := hrel
    have HGK := Lib.hid hgk
    obtain ⟨q, rfl⟩ := hdr
    by_cases hlt : k < n
    · clear hgk
      obtain ⟨b, off, x, A', c', rfl, hbl, hx, s0, s1, s2, s3, hcd, hbs⟩ := ha.at_ hlt
      obtain ⟨b2, off2, x2, B', c2', rfl, hbl2, hx2, t0, t1, t2, t3, hcd2, hbs2⟩ := hb.at_ hlt
      have hxx : x2 = x := Option.some.inj (hx2.symm.trans hx)
      subst hxx
      obtain ⟨xk, xf, xl, xd⟩ := x2
      simp only at s0 s1 s2 s3 t0 t1 t2 t3 hbs hbs2
      have e1 : (xk != xk) = false := by simp
      have e2 : (xf != xf) = false := by simp
      have e3 : (xl != xl) = false := by simp
      have HS := Lib.hid (And.intro s0 (And.intro s1 (And.intro s2 s3)))
      have HT := Lib.hid (And.intro t0 (And.intro t1 (And.intro t2 t3)))
      clear hx hx2 s0 s1 s2 s3 t0 t1 t2 t3
      go_wp2_with fail
      refine wp_region_class (C := fun w' => Drawn w w') (by kernel_rfl) (by kernel_rfl) ⟨q + 1, rfl⟩ ?_
      repeat
        (refine wpQuiet_step (fun K hK => ?_)
         rw [if_pos (by rfl)]
         apply Exists.intro
         refine ⟨fun w' hw' => ?_, hK _ ?_⟩
         · have a0 := (hw'.cell _).trans HS.out.1
           have a1 := (hw'.cell _).trans HS.out.2.1
           have a2 := (hw'.cell _).trans HS.out.2.2.1
           have a3 := (hw'.cell _).trans HS.out.2.2.2
           have b0 := (hw'.cell _).trans HT.out.1
           have b1 := (hw'.cell _).trans HT.out.2.1
           have b2 := (hw'.cell _).trans HT.out.2.2.1
           have b3 := (hw'.cell _).trans HT.out.2.2.2
           have v1 := run_str (P := Tryd.prog) (hw'.bs hbs) 22 5 9 Tryd.underlying22 Tryd.underlying5 Tryd.underlying9 c'
           have v2 := run_str (P := Tryd.prog) (hw'.bs hbs2) 22 5 9 Tryd.underlying22 Tryd.underlying5 Tryd.underlying9 c2'
           go_simp
           first
             | done
             | rfl
         clear hK K
         go_simp)
      refine wpQuiet_nil ?_
      rintro w4 ⟨q4, rfl⟩
      go_wp2_with fail
      go_roundg (gk - 1)
      case measure => have := HGK.out; omega
      case rel => exact ⟨k + 1, by have := HGK.out; omega, by go_num, ⟨q4, rfl⟩⟩
    · obtain rfl : k = n := by omega
      go_wp2_with fail
      go_ret
      exact ⟨rfl, ⟨q, rfl⟩⟩
end Go.Proofs.YtmnanbcinfdbaaaDoor
end
