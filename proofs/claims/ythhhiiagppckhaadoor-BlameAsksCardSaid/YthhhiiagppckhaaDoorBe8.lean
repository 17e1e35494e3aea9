/- Errors: Steps; conditions: none beyond their hypotheses. -/
import Derived.Test.YthhhiiagppckhaaDoorBe7
import Derived.Deep.RegionLaw
namespace Go.Proofs.YthhhiiagppckhaaDoor
open Go.RowKit Go.Proofs.U Go.Proofs.Bp
set_option linter.unusedVariables false

theorem step_appv {P : Program} {w : World} {t e : TypeId} {z : Value} {by_ : Nat} (ht : P.underlying t = some (.slice e)) (hI : (P.info? e).map (fun i => (i.zero, i.size, i.bytes)) = some (some z, 1, by_)) (hz1 : z.cells.size = 1)
    {ops : Array Oper} {o : Oper} {a : Act} {K : Act → World → Prop} {Q : Exit → Act → World → Prop} {E : Prop} (hg : o.guard = none) (s x : Operand)
    (ho : o.op = .call { callee := .builtin .append, args := #[s, x], argTypes := #[t, t] })
    (base : Nat) (A : Option Addr) (n c : Nat) (vs : List Value) (hs : a.eval s = .slice A n c) (hown : w.ownsRow base e 1 (.slice A n c) n vs)
    (B : Nat) (A' : Option Addr) (m c' : Nat) (vs' : List Value) (hx : a.eval x = .slice A' m c') (hr : VS w B A' m vs') (h1 : ∀ u ∈ vs', u.oneCell' = true) (hlen : (n + m) * by_ ≤ 140737488355328) (hmax : n + m ≤ maxLen) (hbase : base ≤ w.heap.size)
    (h : ∀ A2 c2 w2, w2.ownsRow base e 1 (.slice A2 (n + m) c2) (n + m) (vs ++ vs') → w.grownBy w2 (Value.slice A n c).ownBlock → ((Value.slice A2 (n + m) c2).ownBlock = (Value.slice A n c).ownBlock ∨ (Value.slice A2 (n + m) c2).ownBlock = some w.heap.size) →
      K (a.put o.dst (.slice A2 (n + m) c2)) w2) : if Region.wanted o (yielded ops a.tmps) = true then Oper.wp P o a w K Q else E := by
  have hw : Region.wanted o (yielded ops a.tmps) = true := by simp [Region.wanted, hg]
  rw [if_pos hw]
  obtain ⟨A2, c2, w2, hrun, h2, h3, h4⟩ := run_appv (w := w) ht hI hz1 o.type base A n c vs hown B A' m c' vs' hr h1 hlen hmax hbase
  unfold Oper.wp execOp
  simp only [ho, resolve, invoke, builtin, Sem.run_bind, Sem.run_pure, Result.andThen_ok, List.map_toArray, List.map_cons, List.map_nil, hs, hx, hrun]
  exact h A2 c2 w2 h2 h3 h4


theorem infoStr : (Tryd.prog.info? 9).map (fun i => (i.zero, i.size, i.bytes)) = some (some (.string ⟨#[]⟩), 1, 16) := by kernel_rfl
def sv (s : List UInt8) : Value := .string (strOf s)
/-- texts that the call made a row of -/
def OwnS (w : World) (base : Nat) (A : Option Addr) (n c : Nat) (l : List (List UInt8)) : Prop := w.ownsRow base 9 1 (.slice A n c) n (l.map sv)
theorem OwnS.nil (w : World) (base : Nat) : OwnS w base none 0 0 [] := World.ownsRow_nil w base _ 1
theorem OwnS.below {w w' : World} {base n c : Nat} {A : Option Addr} {l : List (List UInt8)} (h : OwnS w base A n c l) (hb : Below w.heap.size w w') : OwnS w' base A n c l :=
  World.ownsRow.kept (row := none) h ⟨hb.os, hb.tape, hb.output, hb.size, fun k hk _ => hb.block k hk⟩ (by
    cases A with
    | none => exact .inl rfl
    | some a => exact .inr (by simp [Value.ownBlock]))
theorem OwnS.vs {w : World} {base n c : Nat} {A : Option Addr} {l : List (List UInt8)} (h : OwnS w base A n c l) : VS w w.heap.size A n (l.map sv) := ownsRow_vs h
theorem OwnS.len {w : World} {base n c : Nat} {A : Option Addr} {l : List (List UInt8)} (h : OwnS w base A n c l) : l.length = n := by have := h.1; simpa using this
theorem OwnS.mono {w : World} {base base' n c : Nat} {A : Option Addr} {l : List (List UInt8)} (h : OwnS w base A n c l) (hb : base' ≤ base) : OwnS w base' A n c l := by
  refine ⟨h.1, ?_⟩
  rcases h.2 with h2 | ⟨g, cap, cur, hv, hg, r⟩
  · exact .inl h2
  · exact .inr ⟨g, cap, cur, hv, by omega, r⟩
theorem oneS (l : List (List UInt8)) : ∀ u ∈ l.map sv, u.oneCell' = true := by
  intro u hu; obtain ⟨x, _, rfl⟩ := List.mem_map.1 hu; rfl
theorem OwnS.at_ {w : World} {base n c : Nat} {A : Option Addr} {l : List (List UInt8)} (h : OwnS w base A n c l) {k : Nat} {x : List UInt8} (hx : l[k]? = some x) : ∃ g, A = some ⟨g, 0, none⟩ ∧ w.cell? ⟨g, k, none⟩ = some (.string (strOf x)) := by
  have hk := (List.getElem?_eq_some_iff.1 hx).1
  have hl := h.len
  obtain ⟨g, cap, hv, hb, hlt⟩ := World.ownsRow.form h (by omega)
  injection hv with hA
  subst hA
  have := VS.nth h.vs (k := k) (v := sv x) (by rw [List.getElem?_map, hx]; rfl)
  rw [Nat.zero_add] at this
  exact ⟨g, rfl, this⟩
def sl : Er → Nat
  | .nil => 0
  | .code _ => 0
  | .one _ _ e => sl e + 1
  | .two a b => sl a + sl b
theorem steps_len : ∀ e : Er, e.steps.length ≤ siz e
  | .nil => by simp [Er.steps, siz]
  | .code c => by simp [Er.steps, siz]
  | .one _ _ e => by have := steps_len e; simp only [Er.steps, siz, List.length_cons]; omega
  | .two a b => by have := steps_len a; have := steps_len b; simp only [Er.steps, siz, List.length_append]; omega
/-- its own step -/
def own1 : Er → List (List UInt8)
  | .one o p _ => [o ++ 32 :: p]
  | _ => []
theorem steps_subs {e : Er} (h : isBl e) : e.steps = own1 e ++ (subs e).flatMap Er.steps := by
  cases e with
  | nil => exact h.elim
  | code c => exact h.elim
  | one o p e => simp [subs, Er.steps, own1]
  | two a b => simp [subs, Er.steps, own1]
/-- short texts -/
def Lt : Er → Prop
  | .nil => True
  | .code _ => True
  | .one o p e => o.length + p.length ≤ 100 ∧ Lt e
  | .two a b => Lt a ∧ Lt b
theorem sub_lt {t x : Er} (h : Lt t) (hx : x ∈ subs t) : Lt x := by
  cases t with
  | nil => cases hx
  | code c => cases hx
  | one o p e => simp only [subs, List.mem_singleton] at hx; subst hx; exact h.2
  | two a b =>
    simp only [subs, List.mem_cons, List.not_mem_nil, or_false] at hx
    rcases hx with rfl | rfl
    · exact h.1
    · exact h.2
def StepsRet (w : World) (l : List (List UInt8)) (e : Ending) (w' : World) : Prop := ∃ A n c, n = l.length ∧ e = .returned (.slice A n c) ∧ OwnS w' w.heap.size A n c l ∧ Below w.heap.size w w'

set_option maxRecDepth 100000 in
set_option maxHeartbeats 4000000 in
theorem steps_nil (w : World) : Calls Tryd.prog 27 #[.nilIface] w (StepsRet w []) := by
  go_enter Tryd.func27, Tryd.ntmps27
  go_wp2_with (go_at_call 31; refine (asNil_any _ _).mono ?_; rintro e w' ⟨rfl, rfl⟩)
  go_ret
  exact ⟨none, 0, 0, rfl, rfl, OwnS.nil _ _, boxed _ _⟩
set_option maxRecDepth 100000 in
set_option maxHeartbeats 4000000 in
theorem steps_code (c : Int) (w : World) (hg : ErrT w) : Calls Tryd.prog 27 #[.iface 23 (.int .i64 c)] w (StepsRet w []) := by
  have hb0 := boxed w (.cells #[.pointer none] 60)
  go_enter Tryd.func27, Tryd.ntmps27
  go_wp2_with fail
  generalize w.alloc (.cells #[.pointer none] 60) = w0 at hb0 ⊢
  refine (As_eb c _ w0 (hg.below hb0)).mono ?_
  rintro e w1 ⟨rfl, hb1⟩
  have hbw1 := hb0.trans (hb1.mono hb0.size)
  go_wp2_with fail
  go_ret
  exact ⟨none, 0, 0, rfl, rfl, OwnS.nil _ _, hbw1⟩
end Go.Proofs.YthhhiiagppckhaaDoor
