/- Slices of slices of bytes: read, and built by append; conditions: none. -/
import Derived.Test.YthhhiiagppckhaaDoorU
import Derived.Deep.Quiet
import Derived.Deep.QuietTactic
namespace Go.Proofs.U
set_option linter.unusedVariables false
open Go.RowKit

theorem VS.nth {w : World} {B n k b off : Nat} {vs : List Value} (h : VS w B (some ⟨b, off, none⟩) n vs) {v : Value} (hv : vs[k]? = some v) : w.cell? ⟨b, off + k, none⟩ = some v := by
  obtain ⟨hk, rfl⟩ := List.getElem?_eq_some_iff.1 hv
  obtain ⟨b', off', e, _, hc⟩ := h.2 (by have := h.1; omega)
  simp only [Option.some.injEq, Addr.mk.injEq, and_true] at e
  obtain ⟨rfl, rfl⟩ := e
  exact hc k hk
theorem ownsRow_vs {w : World} {base n c : Nat} {e : TypeId} {A : Option Addr} {vs : List Value} (h : w.ownsRow base e 1 (.slice A n c) n vs) : VS w w.heap.size A n vs := by
  have hl : vs.length = n := by have := h.1; omega
  refine ⟨hl, fun hn => ?_⟩
  obtain ⟨g, cap, hv, _, hlt⟩ := World.ownsRow.form h hn
  have hA : A = some ⟨g, 0, none⟩ := by injection hv
  subst hA
  refine ⟨g, 0, rfl, hlt, fun j hj => ?_⟩
  have := World.ownsRow.cells (g := g) h rfl j vs[j] (by simp [hj])
  rw [addr_add] at this
  exact this

section
variable {P : Program} {w : World}
/-- append of cells to a row of the call's own -/
theorem run_appv {t e : TypeId} {z : Value} {by_ : Nat} (ht : P.underlying t = some (.slice e)) (hI : (P.info? e).map (fun i => (i.zero, i.size, i.bytes)) = some (some z, 1, by_)) (hz1 : z.cells.size = 1) (ty : TypeId) (base : Nat)
    (A : Option Addr) (n c : Nat) (vs : List Value) (hown : w.ownsRow base e 1 (.slice A n c) n vs)
    (B : Nat) (A' : Option Addr) (m c' : Nat) (vs' : List Value) (hr : VS w B A' m vs') (h1 : ∀ u ∈ vs', u.oneCell' = true) (hlen : (n + m) * by_ ≤ 140737488355328) (hmax : n + m ≤ maxLen) (hbase : base ≤ w.heap.size) :
    ∃ A2 c2 w2, (Builtin.append_ #[t, t] ty #[.slice A n c, .slice A' m c']).run P w = .ok (.slice A2 (n + m) c2) w2 ∧ w2.ownsRow base e 1 (.slice A2 (n + m) c2) (n + m) (vs ++ vs') ∧
      w.grownBy w2 (Value.slice A n c).ownBlock ∧ ((Value.slice A2 (n + m) c2).ownBlock = (Value.slice A n c).ownBlock ∨ (Value.slice A2 (n + m) c2).ownBlock = some w.heap.size) := by
  obtain ⟨i, hi, hz, hs, hb⟩ := info_parts hI
  have hshape : ∀ (v2 : Value) (w2 : World), w2.ownsRow base e 1 v2 (n + m) (vs ++ vs') → ∃ A2 c2, v2 = .slice A2 (n + m) c2 := by
    intro v2 w2 h
    rcases h.2 with ⟨rfl, h0⟩ | ⟨g, cap, cur, rfl, _⟩
    · exact ⟨none, 0, by rw [h0]⟩
    · exact ⟨_, _, rfl⟩
  by_cases hm : m = 0
  · subst hm
    have hn : vs' = [] := List.eq_nil_of_length_eq_zero hr.1
    subst hn
    cases A' with
    | none => exact ⟨A, c, w, run_append_none base t ty e i 1 ht hi _ n _ hown c', by simpa using hown, World.grownBy.refl w _, .inl rfl⟩
    | some ad =>
      obtain ⟨v', w', hrun, h2, h3, _, h5⟩ := run_append_own_at (P := P) w base t ty e i z 1 by_ ht hi hz hs hb hz1 (by omega) _ n _ hown ad 0 c' [] rfl
        (fun j u hu => by simp at hu) (by simp) hmax hlen hbase
      obtain ⟨A2, c2, rfl⟩ := hshape v' w' (by simpa using h2)
      exact ⟨A2, c2, w', hrun, by simpa using h2, h3, h5⟩
  · obtain ⟨b, off, rfl, _, hc⟩ := hr.2 (by omega)
    obtain ⟨v', w', hrun, h2, h3, _, h5⟩ := run_append_own_at (P := P) w base t ty e i z 1 by_ ht hi hz hs hb hz1 (by omega) _ n _ hown ⟨b, off, none⟩ m c' vs' (by simp [hr.1])
        (fun j u hu => by rw [addr_add]; exact hr.nth hu) h1 hmax hlen hbase
    obtain ⟨A2, c2, rfl⟩ := hshape v' w' h2
    exact ⟨A2, c2, w', hrun, h2, h3, h5⟩

theorem wpList_appv {t e : TypeId} {z : Value} {by_ : Nat} (ht : P.underlying t = some (.slice e)) (hI : (P.info? e).map (fun i => (i.zero, i.size, i.bytes)) = some (some z, 1, by_)) (hz1 : z.cells.size = 1)
    {ops : Array Oper} {rest : List Oper} {o : Oper} {a : Act} {Q : Exit → Act → World → Prop} (hgd : o.guard = none) (s x : Operand)
    (ho : o.op = .call { callee := .builtin .append, args := #[s, x], argTypes := #[t, t] })
    (base : Nat) (A : Option Addr) (n c : Nat) (vs : List Value) (hs : a.eval s = .slice A n c) (hown : w.ownsRow base e 1 (.slice A n c) n vs)
    (B : Nat) (A' : Option Addr) (m c' : Nat) (vs' : List Value) (hx : a.eval x = .slice A' m c') (hr : VS w B A' m vs') (h1 : ∀ u ∈ vs', u.oneCell' = true) (hlen : (n + m) * by_ ≤ 140737488355328) (hmax : n + m ≤ maxLen) (hbase : base ≤ w.heap.size)
    (h : ∀ A2 c2 w2, w2.ownsRow base e 1 (.slice A2 (n + m) c2) (n + m) (vs ++ vs') → w.grownBy w2 (Value.slice A n c).ownBlock → ((Value.slice A2 (n + m) c2).ownBlock = (Value.slice A n c).ownBlock ∨ (Value.slice A2 (n + m) c2).ownBlock = some w.heap.size) →
      wpList P ops Q rest (a.put o.dst (.slice A2 (n + m) c2)) w2) : wpList P ops Q (o :: rest) a w :=
  wpList_plain hgd fun _ hK => by
    obtain ⟨A2, c2, w2, hrun, h2, h3, h4⟩ := run_appv (w := w) ht hI hz1 o.type base A n c vs hown B A' m c' vs' hr h1 hlen hmax hbase
    unfold Oper.wp execOp
    simp only [ho, resolve, invoke, builtin, Sem.run_bind, Sem.run_pure, Result.andThen_ok, List.map_toArray, List.map_cons, List.map_nil, hs, hx, hrun]
    exact hK _ _ (h A2 c2 w2 h2 h3 h4)
end

/-- bytes behind a slice value: in blocks from lo on, of rows of type e -/
def El (w : World) (lo : Nat) (e : TypeId) (v : Value) (bs : List UInt8) : Prop :=
  ∃ A c, v = .slice A bs.length c ∧ bs.length ≤ c ∧ BS w w.heap.size A bs.length bs ∧ (0 < bs.length → ∀ a, A = some a → lo ≤ a.block ∧ ∃ cur fr, w.heap[a.block]? = some (.cells cur e fr))
theorem El.kept {w w' : World} {lo : Nat} {e : TypeId} {v : Value} {bs : List UInt8} (h : El w lo e v bs) (hs : w.heap.size ≤ w'.heap.size)
    (hk : ∀ k cur fr, lo ≤ k → k < w.heap.size → w.heap[k]? = some (.cells cur e fr) → w'.heap[k]? = w.heap[k]?) : El w' lo e v bs := by
  obtain ⟨A, c, rfl, hc, hb, ht⟩ := h
  refine ⟨A, c, rfl, hc, ⟨hb.1, fun hn => ?_⟩, fun hn a ha => ?_⟩
  · obtain ⟨b, off, rfl, hlt, hcell⟩ := hb.2 hn
    obtain ⟨hlo, cur, fr, hh⟩ := ht hn _ rfl
    refine ⟨b, off, rfl, by omega, fun j hj => (World.cell?_of_block (hk b cur fr hlo hlt hh)).trans (hcell j hj)⟩
  · obtain ⟨hlo, cur, fr, hh⟩ := ht hn a ha
    exact ⟨hlo, cur, fr, (hk a.block cur fr hlo (Array.getElem?_eq_some_iff.1 hh).1 hh).trans hh⟩
theorem El.lo {w : World} {lo lo' : Nat} {e : TypeId} {v : Value} {bs : List UInt8} (h : El w lo e v bs) (hl : lo' ≤ lo) : El w lo' e v bs := by
  obtain ⟨A, c, rfl, hc, hb, ht⟩ := h
  exact ⟨A, c, rfl, hc, hb, fun hn a ha => ⟨by have := (ht hn a ha).1; omega, (ht hn a ha).2⟩⟩
theorem Own.el {w : World} {base n c : Nat} {e : TypeId} {A : Option Addr} {bs : List UInt8} (h : Own w base e A n c bs) : El w base e (.slice A n c) bs := by
  have hl := h.len
  subst hl
  refine ⟨A, c, rfl, h.le, h.bs, fun hn a ha => ?_⟩
  rcases h.2 with ⟨hv, h0⟩ | ⟨g, cap, cur, hv, hg, hh, _⟩
  · omega
  · injection hv with hA
    rw [hA] at ha
    obtain rfl := Option.some.inj ha
    exact ⟨hg, cur, _, hh⟩

/-- slices of bytes that the call made, in a row of its own -/
def Outs (w : World) (base : Nat) (T e : TypeId) (A : Option Addr) (n c : Nat) (o : List (List UInt8)) : Prop :=
  ∃ vs, w.ownsRow base T 1 (.slice A n c) n vs ∧ vs.length = o.length ∧ ∀ (j : Nat) (v : Value) (bs : List UInt8), vs[j]? = some v → o[j]? = some bs → El w base e v bs
theorem Outs.len {w : World} {base n c : Nat} {T e : TypeId} {A : Option Addr} {o : List (List UInt8)} (h : Outs w base T e A n c o) : o.length = n := by
  obtain ⟨vs, h1, h2, _⟩ := h; have := h1.1; omega
theorem Outs.nil (w : World) (base : Nat) (T e : TypeId) : Outs w base T e none 0 0 [] := ⟨[], World.ownsRow_nil w base T 1, rfl, fun j v bs h => by simp at h⟩
theorem Outs.only {w w' : World} {base n c : Nat} {T e : TypeId} {A : Option Addr} {o : List (List UInt8)} {row : Option Nat} (h : Outs w base T e A n c o) (hg : w.grownBy w' row) (hr : ∀ k, row = some k → k < base) : Outs w' base T e A n c o := by
  obtain ⟨vs, h1, h2, h3⟩ := h
  refine ⟨vs, h1.kept hg ?_, h2, fun j v bs hv hb => (h3 j v bs hv hb).kept hg.size fun k cur fr hk hlt _ => hg.block k hlt fun e => ?_⟩
  · cases hA : (Value.slice A n c).ownBlock with
    | none => exact .inl rfl
    | some k => exact .inr fun e => by have := hr k e.symm; have := (h1.lt k hA).1; omega
  · have := hr k e.symm; omega
theorem Outs.below {w w' : World} {base n c : Nat} {T e : TypeId} {A : Option Addr} {o : List (List UInt8)} (h : Outs w base T e A n c o) (hb : Below w.heap.size w w') : Outs w' base T e A n c o :=
  h.only (row := none) ⟨hb.os, hb.tape, hb.output, hb.size, fun k hk _ => hb.block k hk⟩ (fun k h => by cases h)
/-- the row written: the slices in it are not -/
theorem Outs.grow {w w' : World} {base n c n' c' : Nat} {T e : TypeId} {A A' : Option Addr} {vs vs' : List Value} {o o' : List (List UInt8)} (hne : e ≠ T) (h1 : w.ownsRow base T 1 (.slice A n c) n vs)
    (h2 : vs.length = o.length) (h3 : ∀ (j : Nat) (v : Value) (bs : List UInt8), vs[j]? = some v → o[j]? = some bs → El w base e v bs) (h4 : vs'.length = o'.length) (h5 : ∀ (j : Nat) (v : Value) (bs : List UInt8), vs'[j]? = some v → o'[j]? = some bs → El w base e v bs)
    (hg : w.grownBy w' (Value.slice A n c).ownBlock) (hown : w'.ownsRow base T 1 (.slice A' n' c') n' (vs ++ vs')) : Outs w' base T e A' n' c' (o ++ o') := by
  have keep : ∀ v bs, El w base e v bs → El w' base e v bs := fun v bs h => h.kept hg.size fun k cur fr hk hlt hh => hg.block k hlt fun er => by
    rcases h1.2 with ⟨hv, _⟩ | ⟨g, cap, cu, hv, _, hgg, _⟩
    · rw [hv] at er; simp [Value.ownBlock] at er
    · rw [hv] at er
      simp only [Value.ownBlock, Option.some.injEq] at er
      subst er
      rw [hgg] at hh
      injection hh with hh
      injection hh with _ ht
      exact hne ht.symm
  refine ⟨_, hown, by simp [h2, h4], fun j v bs hv hb => ?_⟩
  by_cases hj : j < vs.length
  · rw [List.getElem?_append_left hj] at hv
    rw [List.getElem?_append_left (by omega)] at hb
    exact keep v bs (h3 j v bs hv hb)
  · rw [List.getElem?_append_right (by omega)] at hv
    rw [List.getElem?_append_right (by omega)] at hb
    rw [h2] at hv
    exact keep v bs (h5 _ v bs hv hb)

/-- slices of bytes as they read; all of it in blocks from lo on, below B -/
def SS (w : World) (lo B : Nat) (A : Option Addr) (n : Nat) (o : List (List UInt8)) : Prop :=
  o.length = n ∧ (0 < n → ∃ b off, A = some ⟨b, off, none⟩ ∧ lo ≤ b ∧ b < B ∧ ∀ (j : Nat) (bs : List UInt8), o[j]? = some bs → ∃ A' c', w.cell? ⟨b, off + j, none⟩ = some (.slice A' bs.length c') ∧ bs.length ≤ c' ∧ BS w B A' bs.length bs ∧
    (0 < bs.length → ∀ a, A' = some a → lo ≤ a.block))
theorem SS.nil (w : World) (lo B : Nat) (A : Option Addr) : SS w lo B A 0 [] := ⟨rfl, fun h => absurd h (by omega)⟩
theorem SS.keep {w w' : World} {lo B n : Nat} {A : Option Addr} {o : List (List UInt8)} (h : SS w lo B A n o) (hk : ∀ k, lo ≤ k → k < B → w'.heap[k]? = w.heap[k]?) : SS w' lo B A n o := by
  refine ⟨h.1, fun hn => ?_⟩
  obtain ⟨b, off, rfl, hlo, hlt, hc⟩ := h.2 hn
  refine ⟨b, off, rfl, hlo, hlt, fun j bs hj => ?_⟩
  obtain ⟨A', c', hcell, hle, hb, hbl⟩ := hc j bs hj
  refine ⟨A', c', (World.cell?_of_block (hk b hlo hlt)).trans hcell, hle, ⟨hb.1, fun h0 => ?_⟩, hbl⟩
  obtain ⟨b', off', rfl, hlt', hc'⟩ := hb.2 h0
  exact ⟨b', off', rfl, hlt', fun i hi => (World.cell?_of_block (hk b' (hbl h0 _ rfl) hlt')).trans (hc' i hi)⟩
theorem SS.below {w w' : World} {lo B n : Nat} {A : Option Addr} {o : List (List UInt8)} (h : SS w lo B A n o) (hb : Below B w w') : SS w' lo B A n o := h.keep fun k _ hk => hb.block k hk
theorem SS.only {w w' : World} {lo B n : Nat} {A : Option Addr} {o : List (List UInt8)} {row : Option Nat} (h : SS w lo B A n o) (hg : w.grownBy w' row) (hB : B ≤ w.heap.size) (hr : ∀ k, row = some k → k < lo ∨ B ≤ k) : SS w' lo B A n o :=
  h.keep fun k hk hlt => hg.block k (by omega) fun e => by have := hr k e.symm; omega
theorem SS.at_ {w : World} {lo B n k : Nat} {A : Option Addr} {o : List (List UInt8)} (h : SS w lo B A n o) (hk : k < n) :
    ∃ b off bs A' c', A = some ⟨b, off, none⟩ ∧ b < B ∧ o[k]? = some bs ∧ w.cell? ⟨b, off + k, none⟩ = some (.slice A' bs.length c') ∧ bs.length ≤ c' ∧ BS w B A' bs.length bs ∧ (0 < bs.length → ∀ a, A' = some a → lo ≤ a.block) := by
  obtain ⟨b, off, rfl, _, hlt, hc⟩ := h.2 (by omega)
  have hl := h.1
  obtain ⟨A', c', r⟩ := hc k o[k] (by simp)
  exact ⟨b, off, o[k], A', c', rfl, hlt, by simp, r⟩
theorem Outs.ss {w : World} {base n c : Nat} {T e : TypeId} {A : Option Addr} {o : List (List UInt8)} (h : Outs w base T e A n c o) : SS w base w.heap.size A n o := by
  have hl := h.len
  obtain ⟨vs, h1, h2, h3⟩ := h
  refine ⟨hl, fun hn => ?_⟩
  have hvs := ownsRow_vs h1
  obtain ⟨b, off, rfl, hlt, hc⟩ := hvs.2 hn
  refine ⟨b, off, rfl, (h1.lt b rfl).1, hlt, fun j bs hj => ?_⟩
  have hjl := (List.getElem?_eq_some_iff.1 hj).1
  obtain ⟨A', c', hv, hle, hb, ht⟩ := h3 j vs[j] bs (by simp) hj
  refine ⟨A', c', by rw [hc j (by omega), hv], hle, hb, fun h0 a ha => (ht h0 a ha).1⟩
theorem El.nil (w : World) (lo : Nat) (e : TypeId) (A : Option Addr) (c : Nat) : El w lo e (.slice A 0 c) [] := ⟨A, c, rfl, Nat.zero_le _, BS.nil _ _ _, fun h => absurd h (by simp)⟩
theorem El.below {w w' : World} {lo : Nat} {e : TypeId} {v : Value} {bs : List UInt8} (h : El w lo e v bs) (hb : Below w.heap.size w w') : El w' lo e v bs :=
  h.kept hb.size fun k _ _ _ hk _ => hb.block k hk
theorem El.drew {w : World} {lo : Nat} {e : TypeId} {v : Value} {bs : List UInt8} (h : El w lo e v bs) : El w.drew lo e v bs := h
theorem El.drewN {w : World} {lo : Nat} {e : TypeId} {v : Value} {bs : List UInt8} (h : El w lo e v bs) (q : Nat) : El (w.drewN q) lo e v bs := h
theorem El.open_ {w : World} {lo n c : Nat} {e : TypeId} {A : Option Addr} {bs : List UInt8} (h : El w lo e (.slice A n c) bs) : BS w w.heap.size A n bs ∧ n ≤ c := by
  obtain ⟨A', c', hv, hc, hb, _⟩ := h
  injection hv with h1 h2 h3
  subst h1; subst h2; subst h3
  exact ⟨hb, hc⟩
theorem El.take {w : World} {lo n c k : Nat} {e : TypeId} {A : Option Addr} {bs : List UInt8} (h : El w lo e (.slice A n c) bs) (hk : k ≤ n) : El w lo e (.slice A k c) (bs.take k) := by
  obtain ⟨A', c', hv, hc, hb, ht⟩ := h
  injection hv with h1 h2 h3
  subst h1; subst h2; subst h3
  have hl : (bs.take k).length = k := by simp; omega
  refine ⟨A, c, by rw [hl], by omega, by rw [hl]; exact hb.take hk, fun h0 a ha => ht (by omega) a ha⟩
theorem El.drop {w : World} {lo n c c' k b off : Nat} {e : TypeId} {bs : List UInt8} (h : El w lo e (.slice (some ⟨b, off, none⟩) n c) bs) (hk : k ≤ n) (hc' : n - k ≤ c') : El w lo e (.slice (some ⟨b, off + k, none⟩) (n - k) c') (bs.drop k) := by
  obtain ⟨A', c1, hv, hc, hb, ht⟩ := h
  injection hv with h1 h2 h3
  subst h1; subst h2; subst h3
  have hl : (bs.drop k).length = bs.length - k := by simp
  refine ⟨_, c', by rw [hl], by omega, by rw [hl]; exact hb.drop hk, fun h0 a ha => ?_⟩
  have ha' := Option.some.inj ha
  rw [← ha']
  exact ht (by omega) ⟨b, off, none⟩ rfl
theorem El.from_ {w : World} {lo n c c' k : Nat} {e : TypeId} {A : Option Addr} {bs : List UInt8} (h : El w lo e (.slice A n c) bs) (hk : k ≤ n) (hc' : n - k ≤ c') : El w lo e (.slice (A.map fun x => x.add k) (n - k) c') (bs.drop k) := by
  by_cases h0 : n = 0
  · have hl := h.open_.1.1
    subst h0
    obtain rfl := List.eq_nil_of_length_eq_zero hl
    rw [Nat.zero_sub, List.drop_nil]
    exact El.nil _ _ _ _ _
  · obtain ⟨b, off, rfl, _, _⟩ := h.open_.1.2 (by omega)
    show El w lo e (.slice (some ((⟨b, off, none⟩ : Addr).add k)) _ _) _
    rw [addr_add]
    exact h.drop hk hc'
/-- the same world, but for what was drawn -/
def Drawn (w w' : World) : Prop := ∃ q, w' = w.drewN q
theorem Drawn.refl (w : World) : Drawn w w := ⟨0, rfl⟩
theorem Drawn.one (w : World) : Drawn w w.drew := ⟨1, rfl⟩
theorem Drawn.cell {w w' : World} (h : Drawn w w') (a : Addr) : w'.cell? a = w.cell? a := by obtain ⟨q, rfl⟩ := h; rfl
theorem Drawn.bs {w w' : World} {B n : Nat} {A : Option Addr} {bs : List UInt8} (h : Drawn w w') (hb : BS w B A n bs) : BS w' B A n bs := by obtain ⟨q, rfl⟩ := h; exact hb
theorem Drawn.trans {a b c : World} (h : Drawn a b) (k : Drawn b c) : Drawn a c := by
  obtain ⟨q, rfl⟩ := h; obtain ⟨r, rfl⟩ := k; exact ⟨q + r, by rw [World.drewN_drewN]⟩
theorem Drawn.below {w w' : World} (h : Drawn w w') (B : Nat) : Below B w w' := by obtain ⟨q, rfl⟩ := h; exact below_drewN (Below.refl _ _) _
theorem VS.one (w : World) (v : Value) (t : TypeId) (fr : Nat × Nat := (0, 0)) : VS (w.alloc (.cells #[v] t fr)) (w.heap.size + 1) (some ⟨w.heap.size, 0, none⟩) 1 [v] := by
  refine ⟨rfl, fun _ => ⟨w.heap.size, 0, rfl, by omega, fun j hj => ?_⟩⟩
  have hj0 : j = 0 := by simp at hj; omega
  subst hj0
  exact cell_of_row _ w.heap.size 0 #[v] t fr (heap_alloc_new w _)
theorem Outs.app {w w' : World} {base n c n' c' : Nat} {T e : TypeId} {A A' : Option Addr} {o : List (List UInt8)} {v : Value} {p : List UInt8} (hne : e ≠ T) {vs : List Value} (h1 : w.ownsRow base T 1 (.slice A n c) n vs)
    (h2 : vs.length = o.length) (h3 : ∀ (j : Nat) (v : Value) (bs : List UInt8), vs[j]? = some v → o[j]? = some bs → El w base e v bs) (hp : El w base e v p)
    (hg : w.grownBy w' (Value.slice A n c).ownBlock) (hown : w'.ownsRow base T 1 (.slice A' n' c') n' (vs ++ [v])) : Outs w' base T e A' n' c' (o ++ [p]) := by
  refine Outs.grow hne h1 h2 h3 rfl (fun j u bs hu hb => ?_) hg hown
  have hj : j = 0 := by have := (List.getElem?_eq_some_iff.1 hu).1; simp at this; omega
  subst hj
  simp only [List.getElem?_cons_zero, Option.some.injEq] at hu hb
  subst hu; subst hb
  exact hp
theorem notown {w : World} {base size n c g : Nat} {e : TypeId} {A : Option Addr} {vs : List Value} (h : w.ownsRow base e size (.slice A n c) n vs) (hg : g < base) : some g ≠ (Value.slice A n c).ownBlock := by
  intro hA
  have := (h.lt g hA.symm).1
  omega
theorem only_own {a w w' : World} {size n c g : Nat} {e : TypeId} {A : Option Addr} {vs : List Value} (h : a.grownBy w (some g)) (hown : w.ownsRow a.heap.size e size (.slice A n c) n vs) (hg : w.grownBy w' (Value.slice A n c).ownBlock) : a.grownBy w' (some g) :=
  ⟨hg.os.trans h.os, hg.tape.trans h.tape, hg.output.trans h.output, Nat.le_trans h.size hg.size, fun i hi hn => (hg.block i (Nat.lt_of_lt_of_le hi h.size) (notown hown hi)).trans (h.block i hi hn)⟩
theorem El.typed {w w' : World} {lo g : Nat} {e t : TypeId} {v : Value} {bs : List UInt8} {cs : Array Value} (h : El w lo e v bs) (hg : w.grownBy w' (some g)) (hb : Blk w g t cs) (hne : t ≠ e) : El w' lo e v bs :=
  h.kept hg.size fun k cur fr _ hk hh => hg.block k hk fun er => by
    injection er with er
    subst er
    unfold Blk at hb
    rw [hb] at hh
    injection hh with hh
    injection hh with _ ht
    exact hne ht
theorem Outs.typed {w w' : World} {base n c g : Nat} {T e t : TypeId} {A : Option Addr} {o : List (List UInt8)} {cs : Array Value} (h : Outs w base T e A n c o) (hg : w.grownBy w' (some g)) (hb : Blk w g t cs) (hT : t ≠ T) (he : t ≠ e) : Outs w' base T e A n c o := by
  obtain ⟨vs, h1, h2, h3⟩ := h
  refine ⟨vs, h1.kept hg ?_, h2, fun j v bs hv hj => (h3 j v bs hv hj).typed hg hb he⟩
  rcases h1.2 with ⟨hv, _⟩ | ⟨k, cap, cur, hv, _, hk, _⟩
  · rw [hv]; exact .inl rfl
  · rw [hv]
    refine .inr fun er => ?_
    simp only [Value.ownBlock, Option.some.injEq] at er
    subst er
    unfold Blk at hb
    rw [hb] at hk
    injection hk with hk
    injection hk with _ ht
    exact hT ht
theorem only_two {w : World} {g i j : Nat} {u v : Value} : w.grownBy ((w.setCell ⟨g, i, none⟩ u).setCell ⟨g, j, none⟩ v) (some g) := by
  refine only_setCell (g := g) ?_ (.inl rfl) v
  exact only_setCell (World.grownBy.refl w (some g)) (.inl rfl) u
theorem Blk.row_ne {w : World} {base size n c g : Nat} {e t : TypeId} {A : Option Addr} {vs : List Value} {cs : Array Value} (hb : Blk w g t cs) (h : w.ownsRow base e size (.slice A n c) n vs) (hne : t ≠ e) : some g ≠ (Value.slice A n c).ownBlock := by
  intro er
  rcases h.2 with ⟨hv, _⟩ | ⟨k, cap, cur, hv, _, hk, _⟩
  · rw [hv] at er; simp [Value.ownBlock] at er
  · rw [hv] at er
    simp only [Value.ownBlock, Option.some.injEq] at er
    subst er
    unfold Blk at hb
    rw [hb] at hk
    injection hk with hk
    injection hk with _ ht
    exact hne ht
theorem El.row {w w' : World} {lo base size n c : Nat} {e T : TypeId} {A : Option Addr} {vs : List Value} {v : Value} {bs : List UInt8} (h : El w lo e v bs) (h1 : w.ownsRow base T size (.slice A n c) n vs) (hg : w.grownBy w' (Value.slice A n c).ownBlock) (hne : e ≠ T) : El w' lo e v bs :=
  h.kept hg.size fun k cur fr hk hlt hh => hg.block k hlt fun er => by
    rcases h1.2 with ⟨hv, _⟩ | ⟨g, cap, cu, hv, _, hgg, _⟩
    · rw [hv] at er; simp [Value.ownBlock] at er
    · rw [hv] at er
      simp only [Value.ownBlock, Option.some.injEq] at er
      subst er
      rw [hgg] at hh
      injection hh with hh
      injection hh with _ ht
      exact hne ht.symm
theorem below_row {B : Nat} {w0 w w' : World} {base size n c : Nat} {e : TypeId} {A : Option Addr} {vs : List Value} (h : Below B w0 w) (hB : B ≤ w.heap.size) (hown : w.ownsRow base e size (.slice A n c) n vs) (hb : B ≤ base) (hg : w.grownBy w' (Value.slice A n c).ownBlock) : Below B w0 w' :=
  h.grown hg hB fun k hk => Nat.le_trans hb (hown.lt k hk).1
theorem Outs.lo {w : World} {base base' n c : Nat} {T e : TypeId} {A : Option Addr} {o : List (List UInt8)} (h : Outs w base T e A n c o) (hb : base' ≤ base) : Outs w base' T e A n c o := by
  obtain ⟨vs, h1, h2, h3⟩ := h
  refine ⟨vs, ⟨h1.1, ?_⟩, h2, fun j v bs hv hj => (h3 j v bs hv hj).lo hb⟩
  rcases h1.2 with h | ⟨g, cap, cur, hv, hg, r⟩
  · exact .inl h
  · exact .inr ⟨g, cap, cur, hv, by omega, r⟩
theorem ownsRow_one {w : World} {base : Nat} {e : TypeId} {vs : List Value} {o : List (List UInt8)} (h2 : vs.length = o.length) (h3 : ∀ (j : Nat) (v : Value) (bs : List UInt8), vs[j]? = some v → o[j]? = some bs → El w base e v bs) : ∀ u ∈ vs, u.oneCell' = true := by
  intro u hu
  obtain ⟨j, hj⟩ := List.getElem?_of_mem hu
  have hlt := (List.getElem?_eq_some_iff.1 hj).1
  obtain ⟨A, c, rfl, _⟩ := h3 j u o[j] hj (by simp)
  rfl
end Go.Proofs.U
