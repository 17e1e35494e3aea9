/- The walks of the small functions on slices of bytes: bytes.Clone, Same. Slices of slices of bytes: read, and built by append; conditions: none. Whole rows loaded and stored, and bytes copied into a row: in the words of U; conditions: those of the hypotheses. Steps read of bytes, plain; conditions: none beyond their hypotheses. Numbers as bytes, plain: digits, widths; what is written is read; conditions: none beyond their hypotheses. -/
import Derived.Test.YthhhiiagppckhaaGreatDoorRows
import Derived.Test.YthhhiiagppckhaaGreatDoorMgU
import Derived.WalkSpells
import Derived.WalkLawsBesides
import Derived.Deep.Quiet
import Derived.Deep.QuietTactic
import Derived.Deep.MidRow
import Derived.Laws.CopyOwn
set_option linter.unusedSimpArgs false
set_option linter.unusedVariables false
section
namespace Go.Proofs.YthhhiiagppckhaaGreatDoor
open Go.RowKit Go.Proofs.U
set_option linter.unusedVariables false
theorem bt : Bt Tryz.prog 24 5 := ⟨Tryz.underlying24, by kernel_rfl⟩

set_option maxHeartbeats 400000 in
theorem clone_any (A : Option Addr) (n c : Nat) (bs : List UInt8) (w : World) (B : Nat) (hb : BS w B A n bs) (hB : B ≤ w.heap.size) (hn : n ≤ 140737488355328) :
    Calls Tryz.prog 71 #[.slice A n c] w (OwnRet 5 w n bs) := by
  have he := Lib.run_eql_slice_nil (P := Tryz.prog) w 24 5 A n c 0 0 Tryz.underlying24
  rcases A with _ | ad
  · have h0 : n = 0 := by
      rcases Nat.eq_zero_or_pos n with h | h
      · exact h
      · obtain ⟨_, _, e, _⟩ := hb.2 h; cases e
    subst h0
    obtain rfl : bs = [] := List.eq_nil_of_length_eq_zero hb.1
    go_enter Tryz.func71, Tryz.ntmps71
    go_wp2
    go_ret
    exact ⟨none, 0, rfl, Own.nil _ _ _, Below.refl _ _⟩
  · go_enter Tryz.func71, Tryz.ntmps71
    go_wp2_with (at_builtin; refine wpList_app bt rfl _ _ rfl w.heap.size _ _ _ [] rfl (Own.made w _ _ (Nat.le_refl _)) B _ _ _ bs rfl (hb.alloc hB _) (by omega) (by simp) ?_; intro A2 c2 w2 hown hgr hat)
    go_ret
    refine ⟨A2, c2, ?_, by simpa using hown, below_of_grown ((Below.refl _ _).alloc (Nat.le_refl _) _) (by simp) (Own.made w _ _ (Nat.le_refl _)) (Nat.le_refl _) hgr⟩
    simp

end Go.Proofs.YthhhiiagppckhaaGreatDoor
end

section
namespace Go.Proofs.U
set_option linter.unusedVariables false
open Go.RowKit

theorem VS.nth {w : World} {B n k b off : Nat} {vs : List Value} (h : VS w B (some ⟨b, off, none⟩) n vs) {v : Value} (hv : vs[k]? = some v) : w.cell? ⟨b, off + k, none⟩ = some v := by
  obtain ⟨hk, rfl⟩ := List.getElem?_eq_some_iff.1 hv
  obtain ⟨b', off', e, _, hc⟩ := h.2 (by have := h.1; omega)
  simp only [Option.some.injEq, Addr.mk.injEq, and_true] at e
  obtain ⟨rfl, rfl⟩ := e
  exact hc k hk
theorem ownsRow_vs {w : World} {base n c : Nat} {e : TypeId} {A : Option Addr} {vs : List Value} (h : w.ownsRow base e 1 (.slice A n c) n vs) : VS w w.heap.size A n vs := by
  have hl : vs.length = n := by have := h.1; omega
  refine ⟨hl, fun hn => ?_⟩
  obtain ⟨g, cap, hv, _, hlt⟩ := World.ownsRow.form h hn
  have hA : A = some ⟨g, 0, none⟩ := by injection hv
  subst hA
  refine ⟨g, 0, rfl, hlt, fun j hj => ?_⟩
  have := World.ownsRow.cells (g := g) h rfl j vs[j] (by simp [hj])
  rw [addr_add] at this
  exact this

section
variable {P : Program} {w : World}
/-- append of cells to a row of the call's own -/
theorem run_appv {t e : TypeId} {z : Value} {by_ : Nat} (ht : P.underlying t = some (.slice e)) (hI : (P.info? e).map (fun i => (i.zero, i.size, i.bytes)) = some (some z, 1, by_)) (hz1 : z.cells.size = 1) (ty : TypeId) (base : Nat)
    (A : Option Addr) (n c : Nat) (vs : List Value) (hown : w.ownsRow base e 1 (.slice A n c) n vs)
    (B : Nat) (A' : Option Addr) (m c' : Nat) (vs' : List Value) (hr : VS w B A' m vs') (h1 : ∀ u ∈ vs', u.oneCell' = true) (hlen : (n + m) * by_ ≤ 140737488355328) (hmax : n + m ≤ maxLen) (hbase : base ≤ w.heap.size) :
    ∃ A2 c2 w2, (Builtin.append_ #[t, t] ty #[.slice A n c, .slice A' m c']).run P w = .ok (.slice A2 (n + m) c2) w2 ∧ w2.ownsRow base e 1 (.slice A2 (n + m) c2) (n + m) (vs ++ vs') ∧
      w.grownBy w2 (Value.slice A n c).ownBlock ∧ ((Value.slice A2 (n + m) c2).ownBlock = (Value.slice A n c).ownBlock ∨ (Value.slice A2 (n + m) c2).ownBlock = some w.heap.size) := by
  obtain ⟨i, hi, hz, hs, hb⟩ := info_parts hI
  have hshape : ∀ (v2 : Value) (w2 : World), w2.ownsRow base e 1 v2 (n + m) (vs ++ vs') → ∃ A2 c2, v2 = .slice A2 (n + m) c2 := by
    intro v2 w2 h
    rcases h.2 with ⟨rfl, h0⟩ | ⟨g, cap, cur, rfl, _⟩
    · exact ⟨none, 0, by rw [h0]⟩
    · exact ⟨_, _, rfl⟩
  by_cases hm : m = 0
  · subst hm
    have hn : vs' = [] := List.eq_nil_of_length_eq_zero hr.1
    subst hn
    cases A' with
    | none => exact ⟨A, c, w, run_append_none base t ty e i 1 ht hi _ n _ hown c', by simpa using hown, World.grownBy.refl w _, .inl rfl⟩
    | some ad =>
      obtain ⟨v', w', hrun, h2, h3, _, h5⟩ := run_append_own_at (P := P) w base t ty e i z 1 by_ ht hi hz hs hb hz1 (by omega) _ n _ hown ad 0 c' [] rfl
        (fun j u hu => by simp at hu) (by simp) hmax hlen hbase
      obtain ⟨A2, c2, rfl⟩ := hshape v' w' (by simpa using h2)
      exact ⟨A2, c2, w', hrun, by simpa using h2, h3, h5⟩
  · obtain ⟨b, off, rfl, _, hc⟩ := hr.2 (by omega)
    obtain ⟨v', w', hrun, h2, h3, _, h5⟩ := run_append_own_at (P := P) w base t ty e i z 1 by_ ht hi hz hs hb hz1 (by omega) _ n _ hown ⟨b, off, none⟩ m c' vs' (by simp [hr.1])
        (fun j u hu => by rw [addr_add]; exact hr.nth hu) h1 hmax hlen hbase
    obtain ⟨A2, c2, rfl⟩ := hshape v' w' h2
    exact ⟨A2, c2, w', hrun, h2, h3, h5⟩

theorem wpList_appv {t e : TypeId} {z : Value} {by_ : Nat} (ht : P.underlying t = some (.slice e)) (hI : (P.info? e).map (fun i => (i.zero, i.size, i.bytes)) = some (some z, 1, by_)) (hz1 : z.cells.size = 1)
    {ops : Array Oper} {rest : List Oper} {o : Oper} {a : Act} {Q : Exit → Act → World → Prop} (hgd : o.guard = none) (s x : Operand)
    (ho : o.op = .call { callee := .builtin .append, args := #[s, x], argTypes := #[t, t] })
    (base : Nat) (A : Option Addr) (n c : Nat) (vs : List Value) (hs : a.eval s = .slice A n c) (hown : w.ownsRow base e 1 (.slice A n c) n vs)
    (B : Nat) (A' : Option Addr) (m c' : Nat) (vs' : List Value) (hx : a.eval x = .slice A' m c') (hr : VS w B A' m vs') (h1 : ∀ u ∈ vs', u.oneCell' = true) (hlen : (n + m) * by_ ≤ 140737488355328) (hmax : n + m ≤ maxLen) (hbase : base ≤ w.heap.size)
    (h : ∀ A2 c2 w2, w2.ownsRow base e 1 (.slice A2 (n + m) c2) (n + m) (vs ++ vs') → w.grownBy w2 (Value.slice A n c).ownBlock → ((Value.slice A2 (n + m) c2).ownBlock = (Value.slice A n c).ownBlock ∨ (Value.slice A2 (n + m) c2).ownBlock = some w.heap.size) →
      wpList P ops Q rest (a.put o.dst (.slice A2 (n + m) c2)) w2) : wpList P ops Q (o :: rest) a w :=
  wpList_plain hgd fun _ hK => by
    obtain ⟨A2, c2, w2, hrun, h2, h3, h4⟩ := run_appv (w := w) ht hI hz1 o.type base A n c vs hown B A' m c' vs' hr h1 hlen hmax hbase
    unfold Oper.wp execOp
    simp only [ho, resolve, invoke, builtin, Sem.run_bind, Sem.run_pure, Result.andThen_ok, List.map_toArray, List.map_cons, List.map_nil, hs, hx, hrun]
    exact hK _ _ (h A2 c2 w2 h2 h3 h4)
end

/-- bytes behind a slice value: in blocks from lo on, of rows of type e -/
def El (w : World) (lo : Nat) (e : TypeId) (v : Value) (bs : List UInt8) : Prop :=
  ∃ A c, v = .slice A bs.length c ∧ bs.length ≤ c ∧ BS w w.heap.size A bs.length bs ∧ (0 < bs.length → ∀ a, A = some a → lo ≤ a.block ∧ ∃ cur fr, w.heap[a.block]? = some (.cells cur e fr))
theorem El.kept {w w' : World} {lo : Nat} {e : TypeId} {v : Value} {bs : List UInt8} (h : El w lo e v bs) (hs : w.heap.size ≤ w'.heap.size)
    (hk : ∀ k cur fr, lo ≤ k → k < w.heap.size → w.heap[k]? = some (.cells cur e fr) → w'.heap[k]? = w.heap[k]?) : El w' lo e v bs := by
  obtain ⟨A, c, rfl, hc, hb, ht⟩ := h
  refine ⟨A, c, rfl, hc, ⟨hb.1, fun hn => ?_⟩, fun hn a ha => ?_⟩
  · obtain ⟨b, off, rfl, hlt, hcell⟩ := hb.2 hn
    obtain ⟨hlo, cur, fr, hh⟩ := ht hn _ rfl
    refine ⟨b, off, rfl, by omega, fun j hj => (World.cell?_of_block (hk b cur fr hlo hlt hh)).trans (hcell j hj)⟩
  · obtain ⟨hlo, cur, fr, hh⟩ := ht hn a ha
    exact ⟨hlo, cur, fr, (hk a.block cur fr hlo (Array.getElem?_eq_some_iff.1 hh).1 hh).trans hh⟩
theorem El.lo {w : World} {lo lo' : Nat} {e : TypeId} {v : Value} {bs : List UInt8} (h : El w lo e v bs) (hl : lo' ≤ lo) : El w lo' e v bs := by
  obtain ⟨A, c, rfl, hc, hb, ht⟩ := h
  exact ⟨A, c, rfl, hc, hb, fun hn a ha => ⟨by have := (ht hn a ha).1; omega, (ht hn a ha).2⟩⟩
theorem Own.el {w : World} {base n c : Nat} {e : TypeId} {A : Option Addr} {bs : List UInt8} (h : Own w base e A n c bs) : El w base e (.slice A n c) bs := by
  have hl := h.len
  subst hl
  refine ⟨A, c, rfl, h.le, h.bs, fun hn a ha => ?_⟩
  rcases h.2 with ⟨hv, h0⟩ | ⟨g, cap, cur, hv, hg, hh, _⟩
  · omega
  · injection hv with hA
    rw [hA] at ha
    obtain rfl := Option.some.inj ha
    exact ⟨hg, cur, _, hh⟩

/-- slices of bytes that the call made, in a row of its own -/
def Outs (w : World) (base : Nat) (T e : TypeId) (A : Option Addr) (n c : Nat) (o : List (List UInt8)) : Prop :=
  ∃ vs, w.ownsRow base T 1 (.slice A n c) n vs ∧ vs.length = o.length ∧ ∀ (j : Nat) (v : Value) (bs : List UInt8), vs[j]? = some v → o[j]? = some bs → El w base e v bs
theorem Outs.len {w : World} {base n c : Nat} {T e : TypeId} {A : Option Addr} {o : List (List UInt8)} (h : Outs w base T e A n c o) : o.length = n := by
  obtain ⟨vs, h1, h2, _⟩ := h; have := h1.1; omega
theorem Outs.nil (w : World) (base : Nat) (T e : TypeId) : Outs w base T e none 0 0 [] := ⟨[], World.ownsRow_nil w base T 1, rfl, fun j v bs h => by simp at h⟩
theorem Outs.only {w w' : World} {base n c : Nat} {T e : TypeId} {A : Option Addr} {o : List (List UInt8)} {row : Option Nat} (h : Outs w base T e A n c o) (hg : w.grownBy w' row) (hr : ∀ k, row = some k → k < base) : Outs w' base T e A n c o := by
  obtain ⟨vs, h1, h2, h3⟩ := h
  refine ⟨vs, h1.kept hg ?_, h2, fun j v bs hv hb => (h3 j v bs hv hb).kept hg.size fun k cur fr hk hlt _ => hg.block k hlt fun e => ?_⟩
  · cases hA : (Value.slice A n c).ownBlock with
    | none => exact .inl rfl
    | some k => exact .inr fun e => by have := hr k e.symm; have := (h1.lt k hA).1; omega
  · have := hr k e.symm; omega
theorem Outs.below {w w' : World} {base n c : Nat} {T e : TypeId} {A : Option Addr} {o : List (List UInt8)} (h : Outs w base T e A n c o) (hb : Below w.heap.size w w') : Outs w' base T e A n c o :=
  h.only (row := none) ⟨hb.os, hb.tape, hb.output, hb.size, fun k hk _ => hb.block k hk⟩ (fun k h => by cases h)
/-- the row written: the slices in it are not -/
theorem Outs.grow {w w' : World} {base n c n' c' : Nat} {T e : TypeId} {A A' : Option Addr} {vs vs' : List Value} {o o' : List (List UInt8)} (hne : e ≠ T) (h1 : w.ownsRow base T 1 (.slice A n c) n vs)
    (h2 : vs.length = o.length) (h3 : ∀ (j : Nat) (v : Value) (bs : List UInt8), vs[j]? = some v → o[j]? = some bs → El w base e v bs) (h4 : vs'.length = o'.length) (h5 : ∀ (j : Nat) (v : Value) (bs : List UInt8), vs'[j]? = some v → o'[j]? = some bs → El w base e v bs)
    (hg : w.grownBy w' (Value.slice A n c).ownBlock) (hown : w'.ownsRow base T 1 (.slice A' n' c') n' (vs ++ vs')) : Outs w' base T e A' n' c' (o ++ o') := by
  have keep : ∀ v bs, El w base e v bs → El w' base e v bs := fun v bs h => h.kept hg.size fun k cur fr hk hlt hh => hg.block k hlt fun er => by
    rcases h1.2 with ⟨hv, _⟩ | ⟨g, cap, cu, hv, _, hgg, _⟩
    · rw [hv] at er; simp [Value.ownBlock] at er
    · rw [hv] at er
      simp only [Value.ownBlock, Option.some.injEq] at er
      subst er
      rw [hgg] at hh
      injection hh with hh
      injection hh with _ ht
      exact hne ht.symm
  refine ⟨_, hown, by simp [h2, h4], fun j v bs hv hb => ?_⟩
  by_cases hj : j < vs.length
  · rw [List.getElem?_append_left hj] at hv
    rw [List.getElem?_append_left (by omega)] at hb
    exact keep v bs (h3 j v bs hv hb)
  · rw [List.getElem?_append_right (by omega)] at hv
    rw [List.getElem?_append_right (by omega)] at hb
    rw [h2] at hv
    exact keep v bs (h5 _ v bs hv hb)

/-- slices of bytes as they read; all of it in blocks from lo on, below B -/
def SS (w : World) (lo B : Nat) (A : Option Addr) (n : Nat) (o : List (List UInt8)) : Prop :=
  o.length = n ∧ (0 < n → ∃ b off, A = some ⟨b, off, none⟩ ∧ lo ≤ b ∧ b < B ∧ ∀ (j : Nat) (bs : List UInt8), o[j]? = some bs → ∃ A' c', w.cell? ⟨b, off + j, none⟩ = some (.slice A' bs.length c') ∧ bs.length ≤ c' ∧ BS w B A' bs.length bs ∧
    (0 < bs.length → ∀ a, A' = some a → lo ≤ a.block))
theorem SS.nil (w : World) (lo B : Nat) (A : Option Addr) : SS w lo B A 0 [] := ⟨rfl, fun h => absurd h (by omega)⟩
theorem SS.keep {w w' : World} {lo B n : Nat} {A : Option Addr} {o : List (List UInt8)} (h : SS w lo B A n o) (hk : ∀ k, lo ≤ k → k < B → w'.heap[k]? = w.heap[k]?) : SS w' lo B A n o := by
  refine ⟨h.1, fun hn => ?_⟩
  obtain ⟨b, off, rfl, hlo, hlt, hc⟩ := h.2 hn
  refine ⟨b, off, rfl, hlo, hlt, fun j bs hj => ?_⟩
  obtain ⟨A', c', hcell, hle, hb, hbl⟩ := hc j bs hj
  refine ⟨A', c', (World.cell?_of_block (hk b hlo hlt)).trans hcell, hle, ⟨hb.1, fun h0 => ?_⟩, hbl⟩
  obtain ⟨b', off', rfl, hlt', hc'⟩ := hb.2 h0
  exact ⟨b', off', rfl, hlt', fun i hi => (World.cell?_of_block (hk b' (hbl h0 _ rfl) hlt')).trans (hc' i hi)⟩
theorem SS.below {w w' : World} {lo B n : Nat} {A : Option Addr} {o : List (List UInt8)} (h : SS w lo B A n o) (hb : Below B w w') : SS w' lo B A n o := h.keep fun k _ hk => hb.block k hk
theorem SS.only {w w' : World} {lo B n : Nat} {A : Option Addr} {o : List (List UInt8)} {row : Option Nat} (h : SS w lo B A n o) (hg : w.grownBy w' row) (hB : B ≤ w.heap.size) (hr : ∀ k, row = some k → k < lo ∨ B ≤ k) : SS w' lo B A n o :=
  h.keep fun k hk hlt => hg.block k (by omega) fun e => by have := hr k e.symm; omega
theorem SS.at_ {w : World} {lo B n k : Nat} {A : Option Addr} {o : List (List UInt8)} (h : SS w lo B A n o) (hk : k < n) :
    ∃ b off bs A' c', A = some ⟨b, off, none⟩ ∧ b < B ∧ o[k]? = some bs ∧ w.cell? ⟨b, off + k, none⟩ = some (.slice A' bs.length c') ∧ bs.length ≤ c' ∧ BS w B A' bs.length bs ∧ (0 < bs.length → ∀ a, A' = some a → lo ≤ a.block) := by
  obtain ⟨b, off, rfl, _, hlt, hc⟩ := h.2 (by omega)
  have hl := h.1
  obtain ⟨A', c', r⟩ := hc k o[k] (by simp)
  exact ⟨b, off, o[k], A', c', rfl, hlt, by simp, r⟩
theorem Outs.ss {w : World} {base n c : Nat} {T e : TypeId} {A : Option Addr} {o : List (List UInt8)} (h : Outs w base T e A n c o) : SS w base w.heap.size A n o := by
  have hl := h.len
  obtain ⟨vs, h1, h2, h3⟩ := h
  refine ⟨hl, fun hn => ?_⟩
  have hvs := ownsRow_vs h1
  obtain ⟨b, off, rfl, hlt, hc⟩ := hvs.2 hn
  refine ⟨b, off, rfl, (h1.lt b rfl).1, hlt, fun j bs hj => ?_⟩
  have hjl := (List.getElem?_eq_some_iff.1 hj).1
  obtain ⟨A', c', hv, hle, hb, ht⟩ := h3 j vs[j] bs (by simp) hj
  refine ⟨A', c', by rw [hc j (by omega), hv], hle, hb, fun h0 a ha => (ht h0 a ha).1⟩
theorem El.nil (w : World) (lo : Nat) (e : TypeId) (A : Option Addr) (c : Nat) : El w lo e (.slice A 0 c) [] := ⟨A, c, rfl, Nat.zero_le _, BS.nil _ _ _, fun h => absurd h (by simp)⟩
theorem El.below {w w' : World} {lo : Nat} {e : TypeId} {v : Value} {bs : List UInt8} (h : El w lo e v bs) (hb : Below w.heap.size w w') : El w' lo e v bs :=
  h.kept hb.size fun k _ _ _ hk _ => hb.block k hk
theorem El.drew {w : World} {lo : Nat} {e : TypeId} {v : Value} {bs : List UInt8} (h : El w lo e v bs) : El w.drew lo e v bs := h
theorem El.drewN {w : World} {lo : Nat} {e : TypeId} {v : Value} {bs : List UInt8} (h : El w lo e v bs) (q : Nat) : El (w.drewN q) lo e v bs := h
theorem El.open_ {w : World} {lo n c : Nat} {e : TypeId} {A : Option Addr} {bs : List UInt8} (h : El w lo e (.slice A n c) bs) : BS w w.heap.size A n bs ∧ n ≤ c := by
  obtain ⟨A', c', hv, hc, hb, _⟩ := h
  injection hv with h1 h2 h3
  subst h1; subst h2; subst h3
  exact ⟨hb, hc⟩
theorem El.take {w : World} {lo n c k : Nat} {e : TypeId} {A : Option Addr} {bs : List UInt8} (h : El w lo e (.slice A n c) bs) (hk : k ≤ n) : El w lo e (.slice A k c) (bs.take k) := by
  obtain ⟨A', c', hv, hc, hb, ht⟩ := h
  injection hv with h1 h2 h3
  subst h1; subst h2; subst h3
  have hl : (bs.take k).length = k := by simp; omega
  refine ⟨A, c, by rw [hl], by omega, by rw [hl]; exact hb.take hk, fun h0 a ha => ht (by omega) a ha⟩
theorem El.drop {w : World} {lo n c c' k b off : Nat} {e : TypeId} {bs : List UInt8} (h : El w lo e (.slice (some ⟨b, off, none⟩) n c) bs) (hk : k ≤ n) (hc' : n - k ≤ c') : El w lo e (.slice (some ⟨b, off + k, none⟩) (n - k) c') (bs.drop k) := by
  obtain ⟨A', c1, hv, hc, hb, ht⟩ := h
  injection hv with h1 h2 h3
  subst h1; subst h2; subst h3
  have hl : (bs.drop k).length = bs.length - k := by simp
  refine ⟨_, c', by rw [hl], by omega, by rw [hl]; exact hb.drop hk, fun h0 a ha => ?_⟩
  have ha' := Option.some.inj ha
  rw [← ha']
  exact ht (by omega) ⟨b, off, none⟩ rfl
theorem El.from_ {w : World} {lo n c c' k : Nat} {e : TypeId} {A : Option Addr} {bs : List UInt8} (h : El w lo e (.slice A n c) bs) (hk : k ≤ n) (hc' : n - k ≤ c') : El w lo e (.slice (A.map fun x => x.add k) (n - k) c') (bs.drop k) := by
  by_cases h0 : n = 0
  · have hl := h.open_.1.1
    subst h0
    obtain rfl := List.eq_nil_of_length_eq_zero hl
    rw [Nat.zero_sub, List.drop_nil]
    exact El.nil _ _ _ _ _
  · obtain ⟨b, off, rfl, _, _⟩ := h.open_.1.2 (by omega)
    show El w lo e (.slice (some ((⟨b, off, none⟩ : Addr).add k)) _ _) _
    rw [addr_add]
    exact h.drop hk hc'
/-- the same world, but for what was drawn -/
def Drawn (w w' : World) : Prop := ∃ q, w' = w.drewN q
theorem Drawn.refl (w : World) : Drawn w w := ⟨0, rfl⟩
theorem Drawn.one (w : World) : Drawn w w.drew := ⟨1, rfl⟩
theorem Drawn.cell {w w' : World} (h : Drawn w w') (a : Addr) : w'.cell? a = w.cell? a := by obtain ⟨q, rfl⟩ := h; rfl
theorem Drawn.bs {w w' : World} {B n : Nat} {A : Option Addr} {bs : List UInt8} (h : Drawn w w') (hb : BS w B A n bs) : BS w' B A n bs := by obtain ⟨q, rfl⟩ := h; exact hb
theorem Drawn.trans {a b c : World} (h : Drawn a b) (k : Drawn b c) : Drawn a c := by
  obtain ⟨q, rfl⟩ := h; obtain ⟨r, rfl⟩ := k; exact ⟨q + r, by rw [World.drewN_drewN]⟩
theorem Drawn.below {w w' : World} (h : Drawn w w') (B : Nat) : Below B w w' := by obtain ⟨q, rfl⟩ := h; exact below_drewN (Below.refl _ _) _
theorem VS.one (w : World) (v : Value) (t : TypeId) (fr : Nat × Nat := (0, 0)) : VS (w.alloc (.cells #[v] t fr)) (w.heap.size + 1) (some ⟨w.heap.size, 0, none⟩) 1 [v] := by
  refine ⟨rfl, fun _ => ⟨w.heap.size, 0, rfl, by omega, fun j hj => ?_⟩⟩
  have hj0 : j = 0 := by simp at hj; omega
  subst hj0
  exact cell_of_row _ w.heap.size 0 #[v] t fr (heap_alloc_new w _)
theorem Outs.app {w w' : World} {base n c n' c' : Nat} {T e : TypeId} {A A' : Option Addr} {o : List (List UInt8)} {v : Value} {p : List UInt8} (hne : e ≠ T) {vs : List Value} (h1 : w.ownsRow base T 1 (.slice A n c) n vs)
    (h2 : vs.length = o.length) (h3 : ∀ (j : Nat) (v : Value) (bs : List UInt8), vs[j]? = some v → o[j]? = some bs → El w base e v bs) (hp : El w base e v p)
    (hg : w.grownBy w' (Value.slice A n c).ownBlock) (hown : w'.ownsRow base T 1 (.slice A' n' c') n' (vs ++ [v])) : Outs w' base T e A' n' c' (o ++ [p]) := by
  refine Outs.grow hne h1 h2 h3 rfl (fun j u bs hu hb => ?_) hg hown
  have hj : j = 0 := by have := (List.getElem?_eq_some_iff.1 hu).1; simp at this; omega
  subst hj
  simp only [List.getElem?_cons_zero, Option.some.injEq] at hu hb
  subst hu; subst hb
  exact hp
theorem notown {w : World} {base size n c g : Nat} {e : TypeId} {A : Option Addr} {vs : List Value} (h : w.ownsRow base e size (.slice A n c) n vs) (hg : g < base) : some g ≠ (Value.slice A n c).ownBlock := by
  intro hA
  have := (h.lt g hA.symm).1
  omega
theorem only_own {a w w' : World} {size n c g : Nat} {e : TypeId} {A : Option Addr} {vs : List Value} (h : a.grownBy w (some g)) (hown : w.ownsRow a.heap.size e size (.slice A n c) n vs) (hg : w.grownBy w' (Value.slice A n c).ownBlock) : a.grownBy w' (some g) :=
  ⟨hg.os.trans h.os, hg.tape.trans h.tape, hg.output.trans h.output, Nat.le_trans h.size hg.size, fun i hi hn => (hg.block i (Nat.lt_of_lt_of_le hi h.size) (notown hown hi)).trans (h.block i hi hn)⟩
theorem El.typed {w w' : World} {lo g : Nat} {e t : TypeId} {v : Value} {bs : List UInt8} {cs : Array Value} (h : El w lo e v bs) (hg : w.grownBy w' (some g)) (hb : Blk w g t cs) (hne : t ≠ e) : El w' lo e v bs :=
  h.kept hg.size fun k cur fr _ hk hh => hg.block k hk fun er => by
    injection er with er
    subst er
    unfold Blk at hb
    rw [hb] at hh
    injection hh with hh
    injection hh with _ ht
    exact hne ht
theorem Outs.typed {w w' : World} {base n c g : Nat} {T e t : TypeId} {A : Option Addr} {o : List (List UInt8)} {cs : Array Value} (h : Outs w base T e A n c o) (hg : w.grownBy w' (some g)) (hb : Blk w g t cs) (hT : t ≠ T) (he : t ≠ e) : Outs w' base T e A n c o := by
  obtain ⟨vs, h1, h2, h3⟩ := h
  refine ⟨vs, h1.kept hg ?_, h2, fun j v bs hv hj => (h3 j v bs hv hj).typed hg hb he⟩
  rcases h1.2 with ⟨hv, _⟩ | ⟨k, cap, cur, hv, _, hk, _⟩
  · rw [hv]; exact .inl rfl
  · rw [hv]
    refine .inr fun er => ?_
    simp only [Value.ownBlock, Option.some.injEq] at er
    subst er
    unfold Blk at hb
    rw [hb] at hk
    injection hk with hk
    injection hk with _ ht
    exact hT ht
theorem only_two {w : World} {g i j : Nat} {u v : Value} : w.grownBy ((w.setCell ⟨g, i, none⟩ u).setCell ⟨g, j, none⟩ v) (some g) := by
  refine only_setCell (g := g) ?_ (.inl rfl) v
  exact only_setCell (World.grownBy.refl w (some g)) (.inl rfl) u
theorem Blk.row_ne {w : World} {base size n c g : Nat} {e t : TypeId} {A : Option Addr} {vs : List Value} {cs : Array Value} (hb : Blk w g t cs) (h : w.ownsRow base e size (.slice A n c) n vs) (hne : t ≠ e) : some g ≠ (Value.slice A n c).ownBlock := by
  intro er
  rcases h.2 with ⟨hv, _⟩ | ⟨k, cap, cur, hv, _, hk, _⟩
  · rw [hv] at er; simp [Value.ownBlock] at er
  · rw [hv] at er
    simp only [Value.ownBlock, Option.some.injEq] at er
    subst er
    unfold Blk at hb
    rw [hb] at hk
    injection hk with hk
    injection hk with _ ht
    exact hne ht
theorem El.row {w w' : World} {lo base size n c : Nat} {e T : TypeId} {A : Option Addr} {vs : List Value} {v : Value} {bs : List UInt8} (h : El w lo e v bs) (h1 : w.ownsRow base T size (.slice A n c) n vs) (hg : w.grownBy w' (Value.slice A n c).ownBlock) (hne : e ≠ T) : El w' lo e v bs :=
  h.kept hg.size fun k cur fr hk hlt hh => hg.block k hlt fun er => by
    rcases h1.2 with ⟨hv, _⟩ | ⟨g, cap, cu, hv, _, hgg, _⟩
    · rw [hv] at er; simp [Value.ownBlock] at er
    · rw [hv] at er
      simp only [Value.ownBlock, Option.some.injEq] at er
      subst er
      rw [hgg] at hh
      injection hh with hh
      injection hh with _ ht
      exact hne ht.symm
theorem below_row {B : Nat} {w0 w w' : World} {base size n c : Nat} {e : TypeId} {A : Option Addr} {vs : List Value} (h : Below B w0 w) (hB : B ≤ w.heap.size) (hown : w.ownsRow base e size (.slice A n c) n vs) (hb : B ≤ base) (hg : w.grownBy w' (Value.slice A n c).ownBlock) : Below B w0 w' :=
  h.grown hg hB fun k hk => Nat.le_trans hb (hown.lt k hk).1
theorem Outs.lo {w : World} {base base' n c : Nat} {T e : TypeId} {A : Option Addr} {o : List (List UInt8)} (h : Outs w base T e A n c o) (hb : base' ≤ base) : Outs w base' T e A n c o := by
  obtain ⟨vs, h1, h2, h3⟩ := h
  refine ⟨vs, ⟨h1.1, ?_⟩, h2, fun j v bs hv hj => (h3 j v bs hv hj).lo hb⟩
  rcases h1.2 with h | ⟨g, cap, cur, hv, hg, r⟩
  · exact .inl h
  · exact .inr ⟨g, cap, cur, hv, by omega, r⟩
theorem ownsRow_one {w : World} {base : Nat} {e : TypeId} {vs : List Value} {o : List (List UInt8)} (h2 : vs.length = o.length) (h3 : ∀ (j : Nat) (v : Value) (bs : List UInt8), vs[j]? = some v → o[j]? = some bs → El w base e v bs) : ∀ u ∈ vs, u.oneCell' = true := by
  intro u hu
  obtain ⟨j, hj⟩ := List.getElem?_of_mem hu
  have hlt := (List.getElem?_eq_some_iff.1 hj).1
  obtain ⟨A, c, rfl, _⟩ := h3 j u o[j] hj (by simp)
  rfl
end Go.Proofs.U
end

section
namespace Go.Proofs.U
open Go.RowKit
set_option linter.unusedVariables false
section
variable {P : Program} {w : World}
theorem grownBy_setRow (w : World) (g : Nat) (cs : Array Value) : w.grownBy (w.setRow g cs) (some g) :=
  ⟨rfl, rfl, rfl, by simp [World.setRow], fun k hk hne => setRow_other w g k _ (fun e => hne (by rw [e]))⟩
theorem wpList_store_blk {ops : Array Oper} {rest : List Oper} {o : Oper} {a : Act} {Q : Exit → Act → World → Prop} (hgd : o.guard = none) (ty : TypeId) (x y : Operand) (ho : o.op = .store ty x y)
    (g : Nat) (cells : Array Value) (hx : a.eval x = .pointer (some ⟨g, 0, none⟩)) (hy : a.eval y = .agg cells)
    (t : TypeId) (old : Array Value) (hg : Blk w g t old) (hi : (P.info? ty).map (·.size) = some cells.size)
    (hold : old.size = cells.size) (h1 : cells.all (·.oneCell') = true)
    (h : ∀ w', Blk w' g t cells → w.grownBy w' (some g) → wpList P ops Q rest (a.put o.dst undef) w') : wpList P ops Q (o :: rest) a w :=
  wpList_plain hgd fun _ hK => wp_store_row ty x y ho g cells hx hy t old hg hi hold h1 (hK _ _ (h _ (setRow_heap w g old _ t _ hg) (grownBy_setRow w g _)))
theorem wpList_load_blk {ops : Array Oper} {rest : List Oper} {o : Oper} {a : Act} {Q : Exit → Act → World → Prop} (hgd : o.guard = none) (ty : TypeId) (x : Operand) (ho : o.op = .load ty x)
    (g : Nat) (hx : a.eval x = .pointer (some ⟨g, 0, none⟩)) (t : TypeId) (cs : Array Value) (d : TypeDesc) (hg : Blk w g t cs)
    (hu : P.underlying ty = some d) (hd : d.isRow = true) (hi : (P.info? ty).map (·.size) = some cs.size)
    (h : wpList P ops Q rest (a.put o.dst (.agg cs)) w) : wpList P ops Q (o :: rest) a w :=
  wpList_load_row hgd ty x ho g hx t cs (0, 0) d hg hu (by cases d <;> simp_all [TypeDesc.isRow]) hi h
/-- copy into a row that is known whole: how the row turns; nothing else does -/
theorem wpList_copy_into {ops : Array Oper} {rest : List Oper} {o : Oper} {a : Act} {Q : Exit → Act → World → Prop} (hgd : o.guard = none) (d s : Operand) (dT sT : TypeId)
    (ho : o.op = .call { callee := .builtin .copy, args := #[d, s], argTypes := #[dT, sT] }) (elem : TypeId) (hu : P.underlying dT = some (.slice elem)) (hsz : (P.info? elem).map (·.size) = some 1)
    (dp sp : Option Addr) (dLen dCap sLen sCap : Nat) (hd : a.eval d = .slice dp dLen dCap) (hs : a.eval s = .slice sp sLen sCap)
    (g off : Nat) (cur : List Value) (t : TypeId) (hg : w.heap[g]? = some (.cells cur.toArray t (0, 0))) (cs : List Value) (hn : cs.length = Nat.min sLen dLen)
    (hpos : 0 < cs.length → dp = some ⟨g, off, none⟩ ∧ ∃ ad, sp = some ad ∧ ∀ (j : Nat) v, cs[j]? = some v → w.cell? (ad.add j) = some v)
    (hfit : off + cs.length ≤ cur.length) (h1 : ∀ v ∈ cs, v.oneCell' = true)
    (h : ∀ w', Blk w' g t (splice cur off cs).toArray → w.grownBy w' (some g) → wpList P ops Q rest (a.put o.dst (goInt cs.length)) w') :
    wpList P ops Q (o :: rest) a w := by
  by_cases h0 : cs.length = 0
  · obtain rfl : cs = [] := List.eq_nil_of_length_eq_zero h0
    refine wpList_copy_nothing hgd d s dT sT ho elem hu hsz dp sp dLen dCap sLen sCap hd hs (by simpa using hn.symm) ?_
    exact h w (show _ = _ by simpa [splice] using hg) (World.grownBy.refl w _)
  · obtain ⟨rfl, ad, rfl, hsrc⟩ := hpos (by omega)
    refine wpList_copy_own hgd d s dT sT ho elem hu hsz g off dLen dCap ad sLen sCap hd hs cur.toArray t hg cs hn hsrc (by simpa using hfit) h1 ?_
    exact h _ (show _ = _ by simpa [splice] using setRow_heap w g _ _ t _ hg) (grownBy_setRow w g _)
end
end Go.Proofs.U
end

section
namespace Go.Proofs.Gr
set_option linter.unusedVariables false
theorem enum_prog {most : Nat} {b b' : List UInt8} {n : Nat} (h : enum most b 0 = (n, b', 0)) : b'.length < b.length := by
  cases b with
  | nil => rw [enum_nil] at h; simp at h
  | cons c r =>
    unfold enum at h; rw [if_neg (by simp)] at h; simp only at h
    split at h
    · simp at h
    · split at h
      · simp at h
      · split at h
        · simp at h
        · split at h
          · simp at h
          · simp at h; rw [← h.2]; simp; omega
theorem enum_ok0 {most : Nat} {b b' : List UInt8} {n f : Nat} (h : enum most b f = (n, b', 0)) : f = 0 := by
  by_cases hf : f = 0
  · exact hf
  · rw [enum_fault _ _ _ hf] at h; simp at h; exact absurd h.2.2 hf
theorem numP_ok0 {most : Nat} {b b' : List UInt8} {n f : Nat} (h : numP most b f = (n, b', 0)) : n ≠ 0 ∧ enum most b f = (n, b', 0) := by
  by_cases h0 : n = 0
  · have := numP_fault (most := most) (b := b) (f := f) (by rw [h]; exact h0)
    rw [h] at this; exact absurd rfl this
  · refine ⟨h0, ?_⟩
    unfold numP at h; simp only at h; split at h
    · injection h with h1; exact absurd h1.symm h0
    · exact h
theorem etext_ok0 {most : Nat} {b d b' : List UInt8} {f : Nat} (h : etext most b f = (d, b', 0)) : ∃ n b1, enum most b f = (n, b1, 0) ∧ n ≤ b1.length ∧ d = b1.take n ∧ b' = b1.drop n := by
  obtain ⟨⟨n, b1, f1⟩, hr⟩ : ∃ r, enum most b f = r := ⟨_, rfl⟩
  by_cases hf : f1 = 0
  · subst hf
    by_cases hl : b1.length < n
    · rw [etext_short hr rfl hl] at h; simp at h
    · rw [etext_ok hr rfl (by simp only; omega)] at h
      simp only [Prod.mk.injEq] at h
      exact ⟨n, b1, hr, by omega, h.1.symm, h.2.1.symm⟩
  · rw [etext_bad hr hf] at h
    simp only [Prod.mk.injEq] at h
    exact absurd h.2.2 hf
/-- what a step was read of -/
theorem nextP_inv {b : List UInt8} {s : Stp} {n : Nat} (h : nextP b = (s, n, 0)) :
    (∃ b1 b2 b3 fr ln, enum 2 b 0 = (1, b1, 0) ∧ enum 4096 b1 0 = (fr, b2, 0) ∧ enum 4096 b2 0 = (ln, b3, 0) ∧ ln ≠ 0 ∧ s = ⟨1, fr, ln, []⟩ ∧ n = b.length - b3.length) ∨
    (∃ b1 b2 d b3, enum 2 b 0 = (2, b1, 0) ∧ (∃ k, enum 128 b1 0 = (k, b2, 0) ∧ k ≤ b2.length ∧ d = b2.take k ∧ b3 = b2.drop k) ∧ d.length ≠ 0 ∧ s = ⟨2, 0, d.length, d⟩ ∧ n = b.length - b3.length) := by
  obtain ⟨⟨k, b1, f1⟩, hr⟩ : ∃ r, numP 2 b 0 = r := ⟨_, rfl⟩
  have hk := numP_le 2 b 0
  rw [hr] at hk
  simp only at hk
  rcases (show k = 0 ∨ k = 1 ∨ k = 2 by omega) with rfl | rfl | rfl
  · rw [nextP0 hr rfl] at h
    have := numP_fault (by rw [hr])
    rw [hr] at this
    simp only [Prod.mk.injEq] at h
    exact absurd h.2.2 this
  · obtain ⟨⟨fr, b2, f2⟩, hr2⟩ : ∃ r, enum 4096 b1 f1 = r := ⟨_, rfl⟩
    obtain ⟨⟨ln, b3, f3⟩, hr3⟩ : ∃ r, numP 4096 b2 f2 = r := ⟨_, rfl⟩
    by_cases hf : f3 = 0
    · subst hf
      rw [nextP1_ok hr hr2 hr3] at h
      simp only [Prod.mk.injEq, and_true] at h
      obtain ⟨h1, h2⟩ := numP_ok0 hr3
      obtain rfl := enum_ok0 h2
      obtain rfl := enum_ok0 hr2
      exact .inl ⟨b1, b2, b3, fr, ln, (numP_ok0 hr).2, hr2, h2, h1, h.1.symm, h.2.symm⟩
    · rw [nextP1_bad hr hr2 hr3 hf] at h
      simp only [Prod.mk.injEq] at h
      exact absurd h.2.2 hf
  · obtain ⟨⟨d, b2, f2⟩, hr2⟩ : ∃ r, etext 128 b1 f1 = r := ⟨_, rfl⟩
    obtain ⟨⟨b4, f4⟩, hx⟩ : ∃ x, (if d.length = 0 then efail 2 b2 f2 else (b2, f2)) = x := ⟨_, rfl⟩
    by_cases hf : f4 = 0
    · subst hf
      rw [nextP2_ok hr hr2 hx] at h
      simp only [Prod.mk.injEq, and_true] at h
      have hd : d.length ≠ 0 := by
        intro h0
        rw [if_pos h0] at hx
        unfold efail at hx
        split at hx
        · simp at hx
        · rename_i h1
          simp only [Prod.mk.injEq] at hx
          exact h1 ⟨hx.2, by decide⟩
      rw [if_neg hd] at hx
      simp only [Prod.mk.injEq] at hx
      obtain ⟨rfl, rfl⟩ := hx
      obtain ⟨k, b5, h5, h6, h7, h8⟩ := etext_ok0 hr2
      obtain rfl := enum_ok0 h5
      exact .inr ⟨b1, b5, d, b2, (numP_ok0 hr).2, ⟨k, h5, h6, h7, h8⟩, hd, h.1.symm, h.2.symm⟩
    · rw [nextP2_bad hr hr2 hx hf] at h
      simp only [Prod.mk.injEq] at h
      exact absurd h.2.2 hf
theorem nextP_prog {b : List UInt8} {s : Stp} {n : Nat} (h : nextP b = (s, n, 0)) : 0 < n ∧ n ≤ b.length := by
  rcases nextP_inv h with ⟨b1, b2, b3, fr, ln, h1, h2, h3, _, _, rfl⟩ | ⟨b1, b2, d, b3, h1, ⟨k, h2, h3, rfl, rfl⟩, _, _, rfl⟩
  · have := enum_prog h1; have := enum_prog h2; have := enum_prog h3; omega
  · have := enum_prog h1; have := enum_prog h2
    rw [List.length_drop]; omega
theorem nextP_len {b : List UInt8} {s : Stp} {n : Nat} (h : nextP b = (s, n, 0)) : s.d.length ≤ 128 ∧ s.l ≤ 4096 ∧ 1 ≤ s.l := by
  rcases nextP_inv h with ⟨b1, b2, b3, fr, ln, h1, h2, h3, h4, rfl, _⟩ | ⟨b1, b2, d, b3, h1, ⟨k, h2, h3, h5, h6⟩, h4, rfl, _⟩
  · have := enum_le 4096 b2 0
    rw [h3] at this
    simp only at this
    exact ⟨by simp, by simp only; omega, by simp only; omega⟩
  · have := enum_le 128 b1 0
    rw [h2] at this
    simp only at this
    have hd : d.length ≤ 128 := by rw [h5, List.length_take]; omega
    exact ⟨hd, by simp only; omega, by simp only; omega⟩
/-- all steps of bytes, behind some -/
def rd : Nat → List Stp → List UInt8 → List Stp × Nat
  | 0, acc, _ => (acc, 0)
  | n + 1, acc, b => if b = [] then (acc, 0) else
    let r := nextP b
    if r.2.2 ≠ 0 then ([], r.2.2) else rd n (acc ++ [r.1]) (b.drop r.2.1)
def readP (b : List UInt8) : List Stp × Nat := rd b.length [] b
theorem rd_nil (n : Nat) (acc : List Stp) : rd n acc [] = (acc, 0) := by cases n <;> simp [rd]
theorem rd_fuel : ∀ (m n : Nat) (acc : List Stp) (b : List UInt8), b.length ≤ m → b.length ≤ n → rd m acc b = rd n acc b
  | 0, n, acc, b, h, _ => by
    have : b = [] := List.eq_nil_of_length_eq_zero (by omega)
    subst this; rw [rd_nil, rd_nil]
  | m + 1, 0, acc, b, _, h => by
    have : b = [] := List.eq_nil_of_length_eq_zero (by omega)
    subst this; rw [rd_nil, rd_nil]
  | m + 1, n + 1, acc, b, hm, hn => by
    unfold rd
    by_cases hb : b = []
    · rw [if_pos hb, if_pos hb]
    · rw [if_neg hb, if_neg hb]
      simp only
      by_cases hf : (nextP b).2.2 = 0
      · rw [if_neg (by simpa using hf), if_neg (by simpa using hf)]
        obtain ⟨⟨s, k, f⟩, hr⟩ : ∃ r, nextP b = r := ⟨_, rfl⟩
        rw [hr] at hf ⊢
        simp only at hf ⊢
        subst hf
        have := nextP_prog hr
        exact rd_fuel m n _ _ (by rw [List.length_drop]; omega) (by rw [List.length_drop]; omega)
      · rw [if_pos (by simpa using hf), if_pos (by simpa using hf)]
theorem rd_step {acc : List Stp} {b : List UInt8} {s : Stp} {k : Nat} (hb : b ≠ []) (h : nextP b = (s, k, 0)) : rd b.length acc b = rd (b.drop k).length (acc ++ [s]) (b.drop k) := by
  have := nextP_prog h
  obtain ⟨m, hm⟩ : ∃ m, b.length = m + 1 := ⟨b.length - 1, by omega⟩
  rw [hm]
  conv => lhs; unfold rd
  rw [if_neg hb, h]
  simp only
  rw [if_neg (by simp)]
  exact rd_fuel _ _ _ _ (by rw [List.length_drop]; omega) (Nat.le_refl _)
theorem rd_bad {acc : List Stp} {b : List UInt8} {s : Stp} {k f : Nat} (hb : b ≠ []) (h : nextP b = (s, k, f)) (hf : f ≠ 0) : rd b.length acc b = ([], f) := by
  have : 0 < b.length := List.length_pos_iff.2 hb
  obtain ⟨m, hm⟩ : ∃ m, b.length = m + 1 := ⟨b.length - 1, by omega⟩
  rw [hm]
  unfold rd
  rw [if_neg hb, h]
  simp only
  rw [if_pos hf]
theorem rd_len : ∀ (n : Nat) (acc : List Stp) (b : List UInt8), (rd n acc b).1.length ≤ acc.length + n
  | 0, acc, b => by simp [rd]
  | n + 1, acc, b => by
    unfold rd; split
    · simp only; omega
    · simp only; split
      · simp
      · have := rd_len n (acc ++ [(nextP b).1]) (b.drop (nextP b).2.1)
        simp at this; omega
end Go.Proofs.Gr
end

section
namespace Go.Proofs.Gr
set_option linter.unusedVariables false
def digsF : Nat → Nat → List UInt8
  | 0, _ => []
  | k + 1, n => if n = 0 then [] else digsF k (n / 256) ++ [UInt8.ofNat n]
def digs (n : Nat) : List UInt8 := digsF 8 n
def numB (n : Nat) : List UInt8 := UInt8.ofNat (digs n).length :: digs n
theorem digsF_zero : ∀ k, digsF k 0 = []
  | 0 => rfl
  | k + 1 => by simp [digsF]
theorem digsF_len : ∀ (k n : Nat), (digsF k n).length ≤ k
  | 0, n => by simp [digsF]
  | k + 1, n => by
    unfold digsF; split
    · simp
    · have := digsF_len k (n / 256); simp; omega
theorem digsF_lt : ∀ (k n j : Nat), j ≤ k → n < 256 ^ k → ((digsF k n).length ≤ j ↔ n < 256 ^ j)
  | 0, n, j, hj, hn => by
    obtain rfl : j = 0 := by omega
    simp [digsF]; simpa using hn
  | k + 1, n, j, hj, hn => by
    unfold digsF
    by_cases h0 : n = 0
    · rw [if_pos h0]; subst h0; simp; exact Nat.pos_of_ne_zero (by simp)
    · rw [if_neg h0]
      cases j with
      | zero => simp; omega
      | succ j =>
        have ih := digsF_lt k (n / 256) j (by omega) (by rw [Nat.pow_succ] at hn; omega)
        rw [List.length_append, List.length_singleton, Nat.pow_succ]
        constructor
        · intro h; have := ih.1 (by omega); omega
        · intro h; have := ih.2 (by omega); omega
theorem digs_lt (n j : Nat) (hj : j ≤ 8) (hn : n < 18446744073709551616) : (digs n).length ≤ j ↔ n < 256 ^ j := digsF_lt 8 n j hj hn
theorem digs_len8 (n : Nat) : (digs n).length ≤ 8 := digsF_len 8 n
theorem numB_len (n : Nat) : (numB n).length ≤ 9 ∧ 1 ≤ (numB n).length := by have := digs_len8 n; unfold numB; simp; omega
/-- bits of a number -/
def bl (n : Nat) : Nat := if n = 0 then 0 else Nat.log2 n + 1
theorem bl_le (n k : Nat) : bl n ≤ k ↔ n < 2 ^ k := by
  unfold bl; split
  · rename_i h; subst h; simp; exact Nat.pos_of_ne_zero (by simp)
  · rename_i h; rw [Nat.succ_le_iff, Nat.log2_lt h]
theorem width_eq (n : Nat) (hn : n < 18446744073709551616) : (digs n).length = (bl n + 7) / 8 := by
  have h8 := digs_len8 n
  have key : ∀ j, j ≤ 8 → ((digs n).length ≤ j ↔ bl n ≤ 8 * j) := fun j hj => by
    rw [digs_lt n j hj hn, bl_le, Nat.pow_mul]
  have h1 := (key (digs n).length h8).1 (Nat.le_refl _)
  by_cases h0 : (digs n).length = 0
  · rw [h0] at h1 ⊢; omega
  · have h2 := (key ((digs n).length - 1) (by omega))
    have h3 : ¬ bl n ≤ 8 * ((digs n).length - 1) := fun h => by have := h2.2 h; omega
    omega
theorem bl_shift (n k : Nat) (h : 2 ^ k ≤ n) : bl n = k + bl (n / 2 ^ k) := by
  have h1 : ∀ j, bl n ≤ k + j ↔ bl (n / 2 ^ k) ≤ j := fun j => by
    rw [bl_le, bl_le, Nat.pow_add, Nat.div_lt_iff_lt_mul (Nat.pow_pos (by decide)), Nat.mul_comm]
  have h2 : ¬ bl n ≤ k := by rw [bl_le]; omega
  have h3 := (h1 (bl n - k)).1 (by omega)
  have h4 := (h1 (bl (n / 2 ^ k))).2 (Nat.le_refl _)
  omega
theorem digsF_at : ∀ (k n i : Nat), i < (digsF k n).length → (digsF k n)[i]? = some (UInt8.ofNat (n / 256 ^ ((digsF k n).length - 1 - i)))
  | 0, n, i, h => by simp [digsF] at h
  | k + 1, n, i, h => by
    unfold digsF at h ⊢
    by_cases h0 : n = 0
    · rw [if_pos h0] at h; simp at h
    · rw [if_neg h0] at h ⊢
      rw [List.length_append, List.length_singleton] at h ⊢
      by_cases hi : i < (digsF k (n / 256)).length
      · rw [List.getElem?_append_left hi, digsF_at k _ i hi, Nat.div_div_eq_div_mul, Nat.mul_comm, ← Nat.pow_succ]
        congr 4; omega
      · obtain rfl : i = (digsF k (n / 256)).length := by omega
        rw [List.getElem?_append_right (Nat.le_refl _), Nat.sub_self]
        simp
theorem digs_at (n i : Nat) (h : i < (digs n).length) : (digs n)[i]? = some (UInt8.ofNat (n / 256 ^ ((digs n).length - 1 - i))) := digsF_at 8 n i h
theorem be_digsF : ∀ (k n : Nat), n < 256 ^ k → be (digsF k n) = n
  | 0, n, h => by simp at h; subst h; rfl
  | k + 1, n, h => by
    unfold digsF; split
    · rename_i h0; rw [h0]; rfl
    · rw [be_snoc, be_digsF k (n / 256) (by rw [Nat.pow_succ] at h; omega), UInt8.toNat_ofNat']; omega
theorem be_digs (n : Nat) (h : n < 18446744073709551616) : be (digs n) = n := be_digsF 8 n h
theorem digsF_head : ∀ (k n : Nat), n < 256 ^ k → (digsF k n)[0]? ≠ some 0
  | 0, n, h => by simp [digsF]
  | k + 1, n, h => by
    unfold digsF; split
    · simp
    · rename_i h0
      by_cases hd : digsF k (n / 256) = []
      · rw [hd]; simp
        have hb := be_digsF k (n / 256) (by rw [Nat.pow_succ] at h; omega)
        rw [hd] at hb
        have : n / 256 = 0 := hb.symm
        intro hc
        have := congrArg UInt8.toNat hc
        rw [UInt8.toNat_ofNat'] at this
        simp at this
        omega
      · rw [List.getElem?_append_left (List.length_pos_iff.2 hd)]
        exact digsF_head k (n / 256) (by rw [Nat.pow_succ] at h; omega)
theorem digs_head (n : Nat) (h : n < 18446744073709551616) : (digs n)[0]? ≠ some 0 := digsF_head 8 n h
/-- digits without a zero ahead are the number's -/
theorem digsF_be : ∀ (k : Nat) (l : List UInt8), l.length ≤ k → l[0]? ≠ some 0 → digsF k (be l) = l
  | 0, l, h, _ => by
    obtain rfl := List.eq_nil_of_length_eq_zero (Nat.le_zero.1 h); rfl
  | k + 1, l, h, h0 => by
    rcases List.eq_nil_or_concat l with rfl | ⟨m, c, rfl⟩
    · rfl
    · rw [List.concat_eq_append] at h h0 ⊢
      rw [be_snoc]
      have hc := c.toNat_lt
      have hne : be m * 256 + c.toNat ≠ 0 := by
        intro hz
        have hm0 : be m = 0 := by omega
        have hc0 : c.toNat = 0 := by omega
        cases m with
        | nil =>
          apply h0; simp
          exact UInt8.toNat_inj.1 (by simpa using hc0)
        | cons x m =>
          have hx : x ≠ 0 := by simpa using h0
          have : ∀ (m : List UInt8) (a : Nat), 0 < a → 0 < m.foldl (fun n d => n * 256 + d.toNat) a := by
            intro m
            induction m with
            | nil => intro a h; exact h
            | cons y m ih => intro a h; exact ih _ (by show 0 < a * 256 + y.toNat; omega)
          have h3 : 0 < be (x :: m) := this m _ (by
            have : x.toNat ≠ 0 := fun h => hx (UInt8.toNat_inj.1 (by simpa using h))
            show 0 < 0 * 256 + x.toNat
            omega)
          omega
      unfold digsF
      rw [if_neg hne, show (be m * 256 + c.toNat) / 256 = be m by omega]
      have hl : m.length ≤ k := by simp at h; omega
      have hm : m[0]? ≠ some 0 := by
        intro hz
        apply h0
        rw [List.getElem?_append_left (by
          rcases Nat.eq_zero_or_pos m.length with h1 | h1
          · rw [List.eq_nil_of_length_eq_zero h1] at hz; simp at hz
          · exact h1)]
        exact hz
      rw [digsF_be k m hl hm]
      congr 1
      simp only [List.cons.injEq, and_true]
      apply UInt8.toNat_inj.1
      rw [UInt8.toNat_ofNat']; omega
/-- a number that was read: its bytes -/
theorem enum_bytes {most n : Nat} {b b' : List UInt8} (h : enum most b 0 = (n, b', 0)) : b = numB n ++ b' ∧ n ≤ most := by
  have hle := enum_le most b 0
  rw [h] at hle
  refine ⟨?_, hle⟩
  cases b with
  | nil => rw [enum_nil] at h; simp at h
  | cons c r =>
    by_cases h1 : 8 < c.toNat
    · rw [enum_wide _ _ _ h1] at h; simp at h
    · by_cases h2 : r.length < c.toNat
      · rw [enum_short _ _ _ (by omega) h2] at h; simp at h
      · by_cases h3 : 0 < c.toNat ∧ r[0]? = some 0
        · rw [enum_zero _ _ _ (by omega) (by omega) h3.1 h3.2] at h; simp at h
        · by_cases h4 : most < be (r.take c.toNat)
          · rw [enum_much _ _ _ (by omega) (by omega) h3 h4] at h; simp at h
          · rw [enum_ok _ _ _ (by omega) (by omega) h3 (by omega)] at h
            simp only [Prod.mk.injEq, and_true] at h
            obtain ⟨rfl, rfl⟩ := h
            have hl : (r.take c.toNat).length = c.toNat := by rw [List.length_take]; omega
            have hd : digs (be (r.take c.toNat)) = r.take c.toNat := by
              refine digsF_be 8 _ (by omega) ?_
              intro hz
              by_cases h5 : 0 < c.toNat
              · rw [List.getElem?_take, if_pos h5] at hz
                exact h3 ⟨h5, hz⟩
              · rw [show c.toNat = 0 by omega] at hz; simp at hz
            unfold numB
            rw [hd, hl]
            simp
/-- a number that was written is read -/
theorem enum_numB {most n : Nat} (r : List UInt8) (hn : n < 18446744073709551616) (hm : n ≤ most) : enum most (numB n ++ r) 0 = (n, r, 0) := by
  have h8 := digs_len8 n
  have hc : (UInt8.ofNat (digs n).length).toNat = (digs n).length := by rw [UInt8.toNat_ofNat']; omega
  unfold numB
  rw [List.cons_append]
  have ht : (digs n ++ r).take (UInt8.ofNat (digs n).length).toNat = digs n := by rw [hc]; simp
  have hz : ¬ (0 < (UInt8.ofNat (digs n).length).toNat ∧ (digs n ++ r)[0]? = some 0) := by
    rintro ⟨h1, h2⟩
    rw [hc] at h1
    rw [List.getElem?_append_left h1] at h2
    exact digs_head n hn h2
  rw [enum_ok most _ _ (by omega) (by rw [hc]; simp) hz (by rw [ht, be_digs n hn]; exact hm), ht, be_digs n hn, hc]
  simp
/-- the bytes of a step, of steps -/
def natI (x : Int) : Nat := x.toNat
def wrS (s : Stp) : List UInt8 := if s.k = 1 then numB 1 ++ numB (natI s.f) ++ numB (natI s.l) else numB 2 ++ (numB s.d.length ++ s.d)
def wrP (l : List Stp) : List UInt8 := l.flatMap wrS
theorem wrP_snoc (l : List Stp) (s : Stp) : wrP (l ++ [s]) = wrP l ++ wrS s := by simp [wrP]
theorem wrP_take (l : List Stp) (k : Nat) (s : Stp) (h : l[k]? = some s) : wrP (l.take (k + 1)) = wrP (l.take k) ++ wrS s := by
  rw [List.take_add_one, h]; exact wrP_snoc _ _
theorem nextP_bytes {b : List UInt8} {s : Stp} {n : Nat} (h : nextP b = (s, n, 0)) : b = wrS s ++ b.drop n ∧ n = (wrS s).length := by
  rcases nextP_inv h with ⟨b1, b2, b3, fr, ln, h1, h2, h3, h4, rfl, rfl⟩ | ⟨b1, b2, d, b3, h1, ⟨k, h2, h3, h5, h6⟩, h4, rfl, rfl⟩
  · obtain ⟨e1, _⟩ := enum_bytes h1
    obtain ⟨e2, _⟩ := enum_bytes h2
    obtain ⟨e3, _⟩ := enum_bytes h3
    have hb : b = wrS ⟨1, fr, ln, []⟩ ++ b3 := by
      unfold wrS natI; simp
      rw [e1, e2, e3]
    have hl : b.length - b3.length = (wrS ⟨1, fr, ln, []⟩).length := by
      have := congrArg List.length hb
      rw [List.length_append] at this; omega
    refine ⟨?_, hl⟩
    rw [hl]
    conv => lhs; rw [hb]
    congr 1
    conv => rhs; rw [hb]
    simp
  · obtain ⟨e1, _⟩ := enum_bytes h1
    obtain ⟨e2, _⟩ := enum_bytes h2
    have hdl : d.length = k := by rw [h5, List.length_take]; omega
    have hb : b = wrS ⟨2, 0, d.length, d⟩ ++ b3 := by
      unfold wrS; simp
      rw [e1, e2, hdl, h5, h6]
      simp
    have hl : b.length - b3.length = (wrS ⟨2, 0, d.length, d⟩).length := by
      have := congrArg List.length hb
      rw [List.length_append] at this; omega
    refine ⟨?_, hl⟩
    rw [hl]
    conv => lhs; rw [hb]
    congr 1
    conv => rhs; rw [hb]
    simp
theorem rd_bytes : ∀ (n : Nat) (acc : List Stp) (b : List UInt8), b.length ≤ n → (rd n acc b).2 = 0 → wrP (rd n acc b).1 = wrP acc ++ b
  | 0, acc, b, h, _ => by
    obtain rfl := List.eq_nil_of_length_eq_zero (Nat.le_zero.1 h); simp [rd]
  | n + 1, acc, b, h, h0 => by
    by_cases hb : b = []
    · subst hb; rw [rd_nil]; simp
    · obtain ⟨⟨s, k, f⟩, hr⟩ : ∃ r, nextP b = r := ⟨_, rfl⟩
      by_cases hf : f = 0
      · subst hf
        have hp := nextP_prog hr
        have he : rd (n + 1) acc b = rd n (acc ++ [s]) (b.drop k) := by
          conv => lhs; unfold rd
          rw [if_neg hb, hr]; simp only; rw [if_neg (by simp)]
        rw [he] at h0 ⊢
        rw [rd_bytes n _ _ (by rw [List.length_drop]; omega) h0, wrP_snoc, List.append_assoc, ← (nextP_bytes hr).1]
      · have he : rd (n + 1) acc b = ([], f) := by
          unfold rd
          rw [if_neg hb, hr]; simp only; rw [if_pos hf]
        rw [he] at h0
        exact absurd h0 hf
theorem readP_bytes {b : List UInt8} (h : (readP b).2 = 0) : wrP (readP b).1 = b := by
  have := rd_bytes b.length [] b (Nat.le_refl _) h
  unfold readP
  simpa [wrP] using this
end Go.Proofs.Gr
end
