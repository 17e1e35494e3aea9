/- Faults: the errors that are made of them; conditions: none beyond their hypotheses. -/
import Derived.Test.YthhhiiagppckhaaDoorBe14
import Derived.Deep.RegionHeld3
namespace Go.Proofs.YthhhiiagppckhaaDoor
open Go.RowKit Go.Proofs.U Go.Proofs.Bp
set_option linter.unusedVariables false

theorem siz_eq : ∀ t : Er, siz t = esz t
  | .nil => rfl
  | .code _ => rfl
  | .one _ _ e => by simp only [siz, esz, siz_eq e]
  | .two a b => by simp only [siz, esz, siz_eq a, siz_eq b]
theorem lt_iff : ∀ t : Er, esh t → Lt t
  | .nil, _ => trivial
  | .code _, _ => trivial
  | .one _ _ e, h => ⟨h.1, lt_iff e h.2⟩
  | .two a b, h => ⟨lt_iff a h.1, lt_iff b h.2⟩
theorem both_eq (a b : Er) : bothT a b = bothE a b := by cases a <;> cases b <;> rfl
theorem good_siz {n : Nat} {t : Er} (h : Bp.Good n t) (hn : n ≤ 10) : siz t ≤ 1000000 := by
  rw [siz_eq]
  have := Nat.pow_le_pow_right (show 0 < 3 by decide) hn
  have := h.sz
  have e : 3 ^ 10 = 59049 := by decide
  omega
theorem of_all {N : Nat → Prop} (c : Int) (o p : List UInt8) (w : World) (hN : ∀ b, w.heap.size ≤ b → N b) : Calls Tryd.prog 66 #[.int .i64 c, .string (strOf o), .string (strOf p)] w (ErRetN N w (if c = 0 then .nil else .one o p (.code c))) := by
  by_cases h : c = 0
  · subst h
    rw [if_pos rfl]
    exact (of_zero (strOf o) (strOf p) w).mono fun e w' ⟨v, he, hv, hb⟩ => ⟨v, he, hv, hb⟩
  · rw [if_neg h]; exact of_any c h o p w hN
theorem wrap_all {N : Nat → Prop} (t : Er) (v : Value) (o p : List UInt8) (w : World) (hs : siz t ≤ 1000000) (hok : EOk t) (h : ErVn N w t v) (hg : ErrT w) (hN : ∀ b, w.heap.size ≤ b → N b) : Calls Tryd.prog 30 #[v, .string (strOf o), .string (strOf p)] w (ErRetN N w (wrapE t o p)) := by
  rcases ok_cases hok with rfl | ⟨hn, hk⟩
  · obtain rfl : v = _ := h
    exact (wrap_nil (strOf o) (strOf p) w hg).mono fun e w' ⟨v, he, hv, hb⟩ => ⟨v, he, hv, hb⟩
  · have e : wrapE t o p = .one o p t := by cases t with | nil => exact absurd rfl hn | _ => rfl
    rw [e]; exact wrap_any t v o p w hs hk h hg hN
theorem ErrsV.grown {N : Nat → Prop} {w w' : World} {vs : List Value} {ts : List Er} {row : Option Nat} (h : ErrsV N w vs ts) (hg : w.grownBy w' row) (hN : ∀ b, N b → some b ≠ row) : ErrsV N w' vs ts := ⟨h.1, fun j v t h1 h2 => (h.2 j v t h1 h2).grown hg hN⟩
theorem ErrsV.weak {N M : Nat → Prop} {w : World} {vs : List Value} {ts : List Er} (h : ErrsV N w vs ts) (hM : ∀ b, N b → b < w.heap.size → M b) : ErrsV M w vs ts := ⟨h.1, fun j v t h1 h2 => (h.2 j v t h1 h2).weak hM⟩
/-- errors that the call made a row of -/
def OwnE (w : World) (base : Nat) (A : Option Addr) (n c : Nat) (ts : List Er) : Prop :=
  ∃ vs, w.ownsRow base 48 1 (.slice A n c) n vs ∧ ErrsV (fun b => some b ≠ (Value.slice A n c).ownBlock) w vs ts
theorem OwnE.nil (w : World) (base : Nat) : OwnE w base none 0 0 [] := ⟨[], World.ownsRow_nil w base _ 1, rfl, fun j v t h => by simp at h⟩
theorem own_row_below {w w' : World} {base n c : Nat} {A : Option Addr} {e : TypeId} {vs : List Value} (h : w.ownsRow base e 1 (.slice A n c) n vs) (hb : Below w.heap.size w w') : w'.ownsRow base e 1 (.slice A n c) n vs :=
  World.ownsRow.kept (row := none) h ⟨hb.os, hb.tape, hb.output, hb.size, fun k hk _ => hb.block k hk⟩ (by
    cases A with
    | none => exact .inl rfl
    | some a => exact .inr (by simp [Value.ownBlock]))
theorem own_fresh {w : World} {base n c : Nat} {A : Option Addr} {e : TypeId} {vs : List Value} (h : w.ownsRow base e 1 (.slice A n c) n vs) : ∀ b, w.heap.size ≤ b → some b ≠ (Value.slice A n c).ownBlock := by
  intro b hb e
  have := (World.ownsRow.lt h b e.symm).2
  omega
/-- the row grown by one error -/
theorem OwnE.app {w w' : World} {base n c c' : Nat} {A A2 : Option Addr} {vs : List Value} {ts : List Er} {v : Value} {t : Er} (h2 : ErrsV (fun b => some b ≠ (Value.slice A n c).ownBlock) w vs ts)
    (hv : ErVn (fun b => some b ≠ (Value.slice A n c).ownBlock) w t v) (hg : w.grownBy w' (Value.slice A n c).ownBlock) (hown : w'.ownsRow base 48 1 (.slice A2 (n + 1) c') (n + 1) (vs ++ [v]))
    (hob : (Value.slice A2 (n + 1) c').ownBlock = (Value.slice A n c).ownBlock ∨ (Value.slice A2 (n + 1) c').ownBlock = some w.heap.size) : OwnE w' base A2 (n + 1) c' (ts ++ [t]) := by
  have hM : ∀ b, some b ≠ (Value.slice A n c).ownBlock → b < w.heap.size → some b ≠ (Value.slice A2 (n + 1) c').ownBlock := by
    intro b h1 h2
    rcases hob with e | e
    · rw [e]; exact h1
    · rw [e]; intro e2; injection e2 with e2; omega
  refine ⟨vs ++ [v], hown, ?_⟩
  have hs := (h2.snoc hv).weak (M := fun b => some b ≠ (Value.slice A n c).ownBlock ∧ some b ≠ (Value.slice A2 (n + 1) c').ownBlock) (fun b h1 h3 => ⟨h1, hM b h1 h3⟩)
  exact (hs.grown hg fun b h => h.1).weak fun b h _ => h.2

end Go.Proofs.YthhhiiagppckhaaDoor
