/- A region that draws its order, by what holds of what has been done; plain walks carried into a round of a range over a function; conditions: none beyond their hypotheses. -/
import Derived.Test.YtmnanbcinfdbaaaDoorU
import Derived.Orders
import Derived.OrdersIn
import Derived.TacticsIn
import Derived.RangeFuncIn
namespace Go.Proofs.U
open Go.RowKit
set_option linter.unusedVariables false
section
variable {P : Program} {md : Region.Mode} {ops : Array Oper} {Q : Exit → Act → World → Prop}

def undone (listed : Array Bool) : Nat → Nat
  | 0 => 0
  | n + 1 => undone listed n + (if listed.getD n true = false then 1 else 0)
theorem undone_set {listed : Array Bool} {i : Nat} (hi : listed.getD i true = false) : ∀ n, i < n → undone (listed.setIfInBounds i true) n + 1 = undone listed n
  | 0, h => absurd h (by omega)
  | n + 1, h => by
    have hlt : i < listed.size := by
      rcases Nat.lt_or_ge i listed.size with h' | h'
      · exact h'
      · simp [Array.getElem?_eq_none h'] at hi
    unfold undone
    by_cases e : i = n
    · subst e
      have hs : (listed.setIfInBounds i true).getD i true = true := by simp [hlt]
      rw [if_neg (by rw [hs]; decide), if_pos hi]
      have : ∀ m, m ≤ i → undone (listed.setIfInBounds i true) m = undone listed m := by
        intro m hm
        induction m with
        | zero => rfl
        | succ m ih => unfold undone; rw [ih (by omega), getD_set_ne true (by omega)]
      rw [this i (Nat.le_refl _)]
    · have ih := undone_set hi n (by omega)
      rw [getD_set_ne true e]
      omega
theorem undone_zero {listed : Array Bool} : ∀ n, undone listed n = 0 → ∀ i, i < n → listed.getD i true = true
  | 0, _, _, h => absurd h (by omega)
  | n + 1, h0, i, h => by
    unfold undone at h0
    by_cases e : i = n
    · subst e
      cases hl : listed.getD i true
      · rw [hl] at h0; simp at h0
      · rfl
    · exact undone_zero n (by omega) i (by omega)
/-- all binding edges lead back -/
def backB (md : Region.Mode) (ops : Array Oper) : Bool := (List.range ops.size).all fun i => (ops[i]?.map fun o => o.after.all fun e => !(Region.binds md e) || decide (e.on < i)).getD true
theorem ready_none (hb : backB md ops = true) {listed : Array Bool} (hr : Region.ready md ops listed = []) (hs : listed.size = ops.size) : ∀ i, i < ops.size → listed.getD i true = true := by
  intro i
  induction i using Nat.strongRecOn with
  | _ i ih =>
    intro hi
    cases hl : listed.getD i true
    · exfalso
      have : i ∈ Region.ready md ops listed := by
        rw [mem_ready]
        refine ⟨hl, ops[i], by simp [hi], fun e he hbe => ?_⟩
        have h1 := List.all_eq_true.1 hb i (List.mem_range.2 hi)
        simp only [Array.getElem?_eq_getElem hi, Option.map_some, Option.getD_some, Array.all_eq_true_iff_forall_mem, Bool.or_eq_true, Bool.not_eq_true', decide_eq_true_eq] at h1
        have h2 := (h1 e he).resolve_left (by simp [hbe])
        have h3 := ih e.on h2 (by omega)
        have hlt : e.on < listed.size := by omega
        simpa [Array.getD, hlt] using h3
      rw [hr] at this
      cases this
    · rfl
/-- one case an operation, not one an order -/
theorem wpAny_inv (Inv : Array Bool → Act → World → Prop) (hb : backB md ops = true)
    (hstep : ∀ (i : Nat) (o : Oper), ops[i]? = some o → ∀ (listed : Array Bool) (a : Act) (w : World), Inv listed a w → listed.getD i true = false → (∀ e ∈ o.after, Region.binds md e = true → listed.getD e.on false = true) →
      ∀ K : Act → World → Prop, (∀ a' w', Inv (listed.setIfInBounds i true) a' w' → K a' w') → if Region.wanted o (yielded ops a.tmps) = true then Oper.wp P o a w K Q else K (a.put o.dst undef) w)
    (hend : ∀ (listed : Array Bool) (a : Act) (w : World), Inv listed a w → (∀ i, i < ops.size → listed.getD i true = true) → Q .normal a w) :
    ∀ (fuel : Nat) (listed : Array Bool) (a : Act) (w : World), listed.size = ops.size → undone listed ops.size ≤ fuel → Inv listed a w → wpAny P md ops Q fuel listed a w
  | 0, listed, a, w, hs, hu, hi => by
    have hall := undone_zero ops.size (by omega) (listed := listed)
    refine ⟨?_, hend _ _ _ hi hall⟩
    rcases hr : Region.ready md ops listed with _ | ⟨j, l⟩
    · rfl
    · exfalso
      have hj : j ∈ Region.ready md ops listed := by rw [hr]; simp
      rw [mem_ready] at hj
      obtain ⟨h0, o, ho, _⟩ := hj
      have := hall j (Array.getElem?_eq_some_iff.1 ho).1
      rw [h0] at this; cases this
  | fuel + 1, listed, a, w, hs, hu, hi => by
    refine ⟨fun hr => hend _ _ _ hi (ready_none hb hr hs), fun i hri => ?_⟩
    rw [mem_ready] at hri
    obtain ⟨h0, o, ho, hd⟩ := hri
    have hlt := (Array.getElem?_eq_some_iff.1 ho).1
    refine wpOp_step ho fun K hK => ?_
    refine hstep i o ho listed a w hi h0 hd K fun a' w' hi' => hK _ _ ?_
    refine wpAny_inv Inv hb hstep hend fuel _ a' w' (by simpa using hs) ?_ hi'
    have := undone_set h0 ops.size hlt
    omega
end
section
variable {P : Program} {md : Region.Mode} {ops : Array Oper} {Q : Exit → Act → World → Prop} {l n : Nat}
theorem rowsIn_wide {row : String} {args : Array Value} {w : World} {R : Value → World → Prop} (h : Rows P row args w R) (l n : Nat) : RowsIn (Fence.wide.inRound l) n P row args w R :=
  fun c cs _ => let ⟨v, w', r, s⟩ := h c cs; ⟨v, w', r, stepsIn_wide.2 s⟩
theorem oper_round {o : Oper} {a : Act} {w : World} {K : Act → World → Prop} (hd : ∀ c, o.op ≠ .defer c) (h : o.wp P a w K Q) : o.wpIn (Fence.wide.inRound l) n P a w K Q := by
  refine ⟨fun f _ => trivial, ?_⟩
  have hs : o.semAt (Fence.wide.inRound l).round a.eval = execOp a.eval o := Oper.semAt_some l _ _ hd
  rw [hs]
  unfold Oper.wp at h
  generalize (execOp a.eval o).run P w = r at h
  cases r with
  | ok x w' =>
    cases x <;> simp only [Oper.upon] at h <;> simp only [Oper.uponIn]
    case value => exact h
    case skip => exact h
    case defer => exact h
    case enter f args => exact ⟨fun e => absurd e (by simp [Fence.wide]), show CallsIn Fence.wide _ _ _ _ _ _ from callsIn_wide.2 h⟩
    case row row args => exact ⟨fun e => absurd e (by simp [Fence.wide]), rowsIn_wide h l _⟩
  | halt x w' => cases x <;> simp only [Oper.upon] at h <;> simp only [Oper.uponIn] <;> exact h
theorem anyIn_of_any (hd : ∀ (i : Nat) (o : Oper), ops[i]? = some o → ∀ c, o.op ≠ .defer c) (hQ : ¬ LetsOut Q) : ∀ (fuel : Nat) (listed : Array Bool) (a : Act) (w : World), wpAny P md ops Q fuel listed a w → wpAnyIn (Fence.wide.inRound l) n P md ops Q fuel listed a w
  | 0, _, _, _, h => h
  | fuel + 1, listed, a, w, h => by
    refine ⟨h.1, fun i hi => ?_⟩
    have h2 := h.2 i hi
    have ih := fun a' w' => anyIn_of_any hd hQ fuel (listed.setIfInBounds i true) a' w'
    unfold wpOp at h2
    unfold wpOpIn
    split at h2
    · rename_i ho
      simp only [ho]; exact ih _ _ h2
    · rename_i o ho
      simp only [ho]
      split at h2
      · rename_i hw
        rw [if_pos hw]
        rcases h2 with h2 | ⟨_, h2⟩
        · exact Oper.wpIn_mono ih (oper_round (hd i o ho) h2)
        · exact absurd h2 hQ
      · rename_i hw
        rw [if_neg hw]
        exact ⟨fun f _ => trivial, ih _ _ h2⟩
theorem listIn_of_list (hQ : ¬ LetsOut Q) : ∀ (lo : List Oper) (a : Act) (w : World), (∀ o ∈ lo, ∀ c, o.op ≠ .defer c) → wpList P ops Q lo a w → wpListIn (Fence.wide.inRound l) n P ops Q lo a w
  | [], _, _, _, h => h
  | o :: lo, a, w, hd, h => by
    unfold wpList at h
    unfold wpListIn
    split at h
    · rename_i hw
      rw [if_pos hw]
      rcases h with h | ⟨_, h⟩
      · exact Oper.wpIn_mono (fun a' w' => listIn_of_list hQ lo a' w' (fun o ho => hd o (by simp [ho]))) (oper_round (hd o (by simp)) h)
      · exact absurd h hQ
    · rename_i hw
      rw [if_neg hw]
      exact ⟨fun f _ => trivial, listIn_of_list hQ lo _ _ (fun o ho => hd o (by simp [ho])) h⟩
def noDefer (o : Oper) : Bool := match o.op with | .defer _ => false | _ => true
theorem noDefer_ne {o : Oper} (h : noDefer o = true) : ∀ c, o.op ≠ .defer c := by
  intro c e
  unfold noDefer at h
  rw [e] at h
  cases h
/-- a region in the text's order, in a round -/
theorem round_list {id : Nat} {lo : List Oper} {a : Act} {w : World} (hd : lo.all noDefer = true) (hQ : ¬ LetsOut Q) (h : wpList P lo.toArray Q lo a w) : (Code.region id lo.toArray false).wpIn (Fence.wide.inRound l) n P Q a w :=
  wpIn_region_lit (listIn_of_list hQ lo a w (fun o ho => noDefer_ne (List.all_eq_true.1 hd o ho)) h)
/-- a region that draws its order, in a round -/
theorem round_any {id : Nat} {a : Act} {w : World} (hm : P.follows .mixedOrders = true) (hd : ops.all noDefer = true) (hQ : ¬ LetsOut Q) (h : wpAny P .any ops Q ops.size (Array.replicate ops.size false) a w.drew) : (Code.region id ops true).wpIn (Fence.wide.inRound l) n P Q a w :=
  wpIn_region_any hm (anyIn_of_any (fun i o ho => noDefer_ne (by have := Array.all_eq_true.1 hd i (Array.getElem?_eq_some_iff.1 ho).1; rw [(Array.getElem?_eq_some_iff.1 ho).2] at this; exact this)) hQ _ _ _ _ h)
end
end Go.Proofs.U
