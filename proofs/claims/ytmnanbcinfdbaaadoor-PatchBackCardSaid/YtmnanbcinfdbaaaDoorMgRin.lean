/- A region that draws its order, by what holds of what has been done; plain walks carried into a round of a range over a function; conditions: none beyond their hypotheses. A range over a function that keeps what is left in a captured cell; conditions: none beyond its hypotheses. A region that draws its order, whose slots get values known ahead; conditions: none beyond their hypotheses. -/
import Derived.Test.YtmnanbcinfdbaaaDoorMgU
import Derived.Orders
import Derived.OrdersIn
import Derived.TacticsIn
import Derived.RangeFuncIn
import Derived.RangeFuncNested
import Derived.RangeFuncLeaves
set_option linter.unusedSimpArgs false
set_option linter.unusedVariables false
section
namespace Go.Proofs.U
open Go.RowKit
set_option linter.unusedVariables false
section
variable {P : Program} {md : Region.Mode} {ops : Array Oper} {Q : Exit → Act → World → Prop}

def undone (listed : Array Bool) : Nat → Nat
  | 0 => 0
  | n + 1 => undone listed n + (if listed.getD n true = false then 1 else 0)
theorem undone_set {listed : Array Bool} {i : Nat} (hi : listed.getD i true = false) : ∀ n, i < n → undone (listed.setIfInBounds i true) n + 1 = undone listed n
  | 0, h => absurd h (by omega)
  | n + 1, h => by
    have hlt : i < listed.size := by
      rcases Nat.lt_or_ge i listed.size with h' | h'
      · exact h'
      · simp [Array.getElem?_eq_none h'] at hi
    unfold undone
    by_cases e : i = n
    · subst e
      have hs : (listed.setIfInBounds i true).getD i true = true := by simp [hlt]
      rw [if_neg (by rw [hs]; decide), if_pos hi]
      have : ∀ m, m ≤ i → undone (listed.setIfInBounds i true) m = undone listed m := by
        intro m hm
        induction m with
        | zero => rfl
        | succ m ih => unfold undone; rw [ih (by omega), getD_set_ne true (by omega)]
      rw [this i (Nat.le_refl _)]
    · have ih := undone_set hi n (by omega)
      rw [getD_set_ne true e]
      omega
theorem undone_zero {listed : Array Bool} : ∀ n, undone listed n = 0 → ∀ i, i < n → listed.getD i true = true
  | 0, _, _, h => absurd h (by omega)
  | n + 1, h0, i, h => by
    unfold undone at h0
    by_cases e : i = n
    · subst e
      cases hl : listed.getD i true
      · rw [hl] at h0; simp at h0
      · rfl
    · exact undone_zero n (by omega) i (by omega)
/-- all binding edges lead back -/
def backB (md : Region.Mode) (ops : Array Oper) : Bool := (List.range ops.size).all fun i => (ops[i]?.map fun o => o.after.all fun e => !(Region.binds md e) || decide (e.on < i)).getD true
theorem ready_none (hb : backB md ops = true) {listed : Array Bool} (hr : Region.ready md ops listed = []) (hs : listed.size = ops.size) : ∀ i, i < ops.size → listed.getD i true = true := by
  intro i
  induction i using Nat.strongRecOn with
  | _ i ih =>
    intro hi
    cases hl : listed.getD i true
    · exfalso
      have : i ∈ Region.ready md ops listed := by
        rw [mem_ready]
        refine ⟨hl, ops[i], by simp [hi], fun e he hbe => ?_⟩
        have h1 := List.all_eq_true.1 hb i (List.mem_range.2 hi)
        simp only [Array.getElem?_eq_getElem hi, Option.map_some, Option.getD_some, Array.all_eq_true_iff_forall_mem, Bool.or_eq_true, Bool.not_eq_true', decide_eq_true_eq] at h1
        have h2 := (h1 e he).resolve_left (by simp [hbe])
        have h3 := ih e.on h2 (by omega)
        have hlt : e.on < listed.size := by omega
        simpa [Array.getD, hlt] using h3
      rw [hr] at this
      cases this
    · rfl
/-- one case an operation, not one an order -/
theorem wpAny_inv (Inv : Array Bool → Act → World → Prop) (hb : backB md ops = true)
    (hstep : ∀ (i : Nat) (o : Oper), ops[i]? = some o → ∀ (listed : Array Bool) (a : Act) (w : World), Inv listed a w → listed.getD i true = false → (∀ e ∈ o.after, Region.binds md e = true → listed.getD e.on false = true) →
      ∀ K : Act → World → Prop, (∀ a' w', Inv (listed.setIfInBounds i true) a' w' → K a' w') → if Region.wanted o (yielded ops a.tmps) = true then Oper.wp P o a w K Q else K (a.put o.dst undef) w)
    (hend : ∀ (listed : Array Bool) (a : Act) (w : World), Inv listed a w → (∀ i, i < ops.size → listed.getD i true = true) → Q .normal a w) :
    ∀ (fuel : Nat) (listed : Array Bool) (a : Act) (w : World), listed.size = ops.size → undone listed ops.size ≤ fuel → Inv listed a w → wpAny P md ops Q fuel listed a w
  | 0, listed, a, w, hs, hu, hi => by
    have hall := undone_zero ops.size (by omega) (listed := listed)
    refine ⟨?_, hend _ _ _ hi hall⟩
    rcases hr : Region.ready md ops listed with _ | ⟨j, l⟩
    · rfl
    · exfalso
      have hj : j ∈ Region.ready md ops listed := by rw [hr]; simp
      rw [mem_ready] at hj
      obtain ⟨h0, o, ho, _⟩ := hj
      have := hall j (Array.getElem?_eq_some_iff.1 ho).1
      rw [h0] at this; cases this
  | fuel + 1, listed, a, w, hs, hu, hi => by
    refine ⟨fun hr => hend _ _ _ hi (ready_none hb hr hs), fun i hri => ?_⟩
    rw [mem_ready] at hri
    obtain ⟨h0, o, ho, hd⟩ := hri
    have hlt := (Array.getElem?_eq_some_iff.1 ho).1
    refine wpOp_step ho fun K hK => ?_
    refine hstep i o ho listed a w hi h0 hd K fun a' w' hi' => hK _ _ ?_
    refine wpAny_inv Inv hb hstep hend fuel _ a' w' (by simpa using hs) ?_ hi'
    have := undone_set h0 ops.size hlt
    omega
end
section
variable {P : Program} {md : Region.Mode} {ops : Array Oper} {Q : Exit → Act → World → Prop} {l n : Nat}
theorem rowsIn_wide {row : String} {args : Array Value} {w : World} {R : Value → World → Prop} (h : Rows P row args w R) (l n : Nat) : RowsIn (Fence.wide.inRound l) n P row args w R :=
  fun c cs _ => let ⟨v, w', r, s⟩ := h c cs; ⟨v, w', r, stepsIn_wide.2 s⟩
theorem oper_round {o : Oper} {a : Act} {w : World} {K : Act → World → Prop} (hd : ∀ c, o.op ≠ .defer c) (h : o.wp P a w K Q) : o.wpIn (Fence.wide.inRound l) n P a w K Q := by
  refine ⟨fun f _ => trivial, ?_⟩
  have hs : o.semAt (Fence.wide.inRound l).round a.eval = execOp a.eval o := Oper.semAt_some l _ _ hd
  rw [hs]
  unfold Oper.wp at h
  generalize (execOp a.eval o).run P w = r at h
  cases r with
  | ok x w' =>
    cases x <;> simp only [Oper.upon] at h <;> simp only [Oper.uponIn]
    case value => exact h
    case skip => exact h
    case defer => exact h
    case enter f args => exact ⟨fun e => absurd e (by simp [Fence.wide]), show CallsIn Fence.wide _ _ _ _ _ _ from callsIn_wide.2 h⟩
    case row row args => exact ⟨fun e => absurd e (by simp [Fence.wide]), rowsIn_wide h l _⟩
  | halt x w' => cases x <;> simp only [Oper.upon] at h <;> simp only [Oper.uponIn] <;> exact h
theorem anyIn_of_any (hd : ∀ (i : Nat) (o : Oper), ops[i]? = some o → ∀ c, o.op ≠ .defer c) (hQ : ¬ LetsOut Q) : ∀ (fuel : Nat) (listed : Array Bool) (a : Act) (w : World), wpAny P md ops Q fuel listed a w → wpAnyIn (Fence.wide.inRound l) n P md ops Q fuel listed a w
  | 0, _, _, _, h => h
  | fuel + 1, listed, a, w, h => by
    refine ⟨h.1, fun i hi => ?_⟩
    have h2 := h.2 i hi
    have ih := fun a' w' => anyIn_of_any hd hQ fuel (listed.setIfInBounds i true) a' w'
    unfold wpOp at h2
    unfold wpOpIn
    split at h2
    · rename_i ho
      simp only [ho]; exact ih _ _ h2
    · rename_i o ho
      simp only [ho]
      split at h2
      · rename_i hw
        rw [if_pos hw]
        rcases h2 with h2 | ⟨_, h2⟩
        · exact Oper.wpIn_mono ih (oper_round (hd i o ho) h2)
        · exact absurd h2 hQ
      · rename_i hw
        rw [if_neg hw]
        exact ⟨fun f _ => trivial, ih _ _ h2⟩
theorem listIn_of_list (hQ : ¬ LetsOut Q) : ∀ (lo : List Oper) (a : Act) (w : World), (∀ o ∈ lo, ∀ c, o.op ≠ .defer c) → wpList P ops Q lo a w → wpListIn (Fence.wide.inRound l) n P ops Q lo a w
  | [], _, _, _, h => h
  | o :: lo, a, w, hd, h => by
    unfold wpList at h
    unfold wpListIn
    split at h
    · rename_i hw
      rw [if_pos hw]
      rcases h with h | ⟨_, h⟩
      · exact Oper.wpIn_mono (fun a' w' => listIn_of_list hQ lo a' w' (fun o ho => hd o (by simp [ho]))) (oper_round (hd o (by simp)) h)
      · exact absurd h hQ
    · rename_i hw
      rw [if_neg hw]
      exact ⟨fun f _ => trivial, listIn_of_list hQ lo _ _ (fun o ho => hd o (by simp [ho])) h⟩
def noDefer (o : Oper) : Bool := match o.op with | .defer _ => false | _ => true
theorem noDefer_ne {o : Oper} (h : noDefer o = true) : ∀ c, o.op ≠ .defer c := by
  intro c e
  unfold noDefer at h
  rw [e] at h
  cases h
/-- a region in the text's order, in a round -/
theorem round_list {id : Nat} {lo : List Oper} {a : Act} {w : World} (hd : lo.all noDefer = true) (hQ : ¬ LetsOut Q) (h : wpList P lo.toArray Q lo a w) : (Code.region id lo.toArray false).wpIn (Fence.wide.inRound l) n P Q a w :=
  wpIn_region_lit (listIn_of_list hQ lo a w (fun o ho => noDefer_ne (List.all_eq_true.1 hd o ho)) h)
/-- a region that draws its order, in a round -/
theorem round_any {id : Nat} {a : Act} {w : World} (hm : P.follows .mixedOrders = true) (hd : ops.all noDefer = true) (hQ : ¬ LetsOut Q) (h : wpAny P .any ops Q ops.size (Array.replicate ops.size false) a w.drew) : (Code.region id ops true).wpIn (Fence.wide.inRound l) n P Q a w :=
  wpIn_region_any hm (anyIn_of_any (fun i o ho => noDefer_ne (by have := Array.all_eq_true.1 hd i (Array.getElem?_eq_some_iff.1 ho).1; rw [(Array.getElem?_eq_some_iff.1 ho).2] at this; exact this)) hQ _ _ _ _ h)
end
end Go.Proofs.U
end

section
namespace Go.Proofs.U
open Go.RowKit
set_option linter.unusedVariables false
/-- what an iterator that keeps its state in the cell of block Bn owes: N rounds, the k-th of what enc tells -/
def SeqCap (P : Program) (gf : Nat) (lb : Array Value) (Bn N : Nat) (enc : Nat → Array Value) (Kp : World → World → Prop) (w : World) : Prop :=
  ∀ (l m : Nat) (J : Nat → World → Prop) (W : World), (∀ k A B, J k A → A.grownBy B (some Bn) → J k B) →
    (∀ k W, k < N → J k W → ∃ fn tmps assign body, (Instr.yield l (enc k)).run P W = .ok (.round l fn tmps assign body) W ∧ ∀ m', RoundIn Fence.wide m' P l fn tmps assign body W fun e W' => e = .returned (.bool true) ∧ J (k + 1) W' ∧ Kp W W') →
    J 0 W → Kp w W → CallsIn Fence.wide m P gf (#[.func (.yield l) #[] #[]] ++ lb) W fun e W' => (∃ v, e = .returned v) ∧ J N W'
theorem range_cap {P : Program} {n : Nat} {g : Operand} {ps : Array Tmp} {assign body : Code} {Q : Exit → Act → World → Prop} {a : Act} {w : World} {gf : Nat} {lb : Array Value} {Bn N : Nat} {enc : Nat → Array Value} {Kp : World → World → Prop}
    (hg : a.eval g = .func (.func gf) #[] lb) (eg : ∀ args w, (callFunc gf args).run P w = .ok (.enter gf args) w) (hps : ∀ k, (enc k).size = ps.size) (hseq : SeqCap P gf lb Bn N enc Kp w) (hBn : Bn < w.heap.size)
    (hKt : ∀ {A B C : World}, Kp A B → Kp B C → Kp A C) (hKa : ∀ (W : World) (o : Obj), w.heap.size ≤ W.heap.size → Kp W (W.alloc o)) (hKb : ∀ (W : World) (l : Nat) (o o' : Obj), w.heap.size ≤ l → W.heap[l]? = some o → Kp W (W.putObj l o'))
    (I : Nat → World → Prop) (hI : ∀ k A B row, I k A → A.grownBy B row → (∀ r, row = some r → r = Bn ∨ (w.heap.size ≤ r ∧ ∃ o : Obj, A.heap[r]? = some o ∧ o.isCells = false)) → I k B) (h0 : I 0 w) (a₁ : Nat → Act)
    (hassign : ∀ (l m k : Nat) (W : World) (K : Act → World → Prop), K (a₁ k) W →
      assign.wpIn (Fence.wide.inRound l) m P (Exit.then K (fun _ _ _ => False)) { tmps := (ps.zip (enc k)).foldl (fun t (p, v) => t.setIfInBounds p v) a.tmps, defers := [] } W)
    (hbody : ∀ (l m k : Nat) (W : World), k < N → I k W → w.heap.size ≤ W.heap.size → body.wpIn (Fence.wide.inRound l) m P (fun e _ W' => e = .normal ∧ KeepsFrom w.heap.size W W' ∧ Kp W W' ∧ I (k + 1) W') (a₁ k) W)
    (hdone : ∀ (D : Nat) (W : World), w.heap.size ≤ D → I N W → W.heap[D]? = some (.deferred (some [])) → Q .normal { a with defers := { target := .collected D, args := #[] } :: a.defers } W) :
    (Code.rangeFunc g ps assign body).wpIn Fence.wide n P Q a w := by
  refine wpIn_rangeFunc fun fn _ => ?_
  obtain ⟨rec, hrec⟩ : ∃ rec : LoopState → Option Code → Loop, rec = fun st pe => { state := st, pending := pe, fn, tmps := a.tmps, params := ps, assign, body, defers := w.heap.size } := ⟨_, rfl⟩
  have hL0 := World.alloc_heap_new (w.alloc (.deferred (some []))) (.loop (rec .ready none))
  rw [World.size_alloc] at hL0
  have hD0 : ((w.alloc (.deferred (some []))).alloc (.loop (rec .ready none))).heap[w.heap.size]? = some (.deferred (some [])) := (Below.heap_alloc _ _ _ (by simp)).trans (World.alloc_heap_new w _)
  have hn1 : ∀ (W : World) (o : Obj), W.grownBy (W.alloc o) none := fun W o => World.grownBy_alloc W o none
  have hI1 : I 0 ((w.alloc (.deferred (some []))).alloc (.loop (rec .ready none))) := hI _ _ _ none (hI _ _ _ none h0 (hn1 _ _) (fun r e => by cases e)) (hn1 _ _) (fun r e => by cases e)
  have hK1 : Kp w ((w.alloc (.deferred (some []))).alloc (.loop (rec .ready none))) := hKt (hKa _ _ (Nat.le_refl _)) (hKa _ _ (by simp))
  obtain ⟨W1, hW1⟩ : ∃ W1, W1 = (w.alloc (.deferred (some []))).alloc (.loop (rec .ready none)) := ⟨_, rfl⟩
  rw [← hW1] at hL0 hD0 hI1 hK1
  refine ⟨w.heap.size + 1, [{ target := .collected w.heap.size, args := #[] }], W1, { target := .fn (.func gf) lb, args := #[.func (.yield (w.heap.size + 1)) #[] #[]] }, W1, gf,
    #[.func (.yield (w.heap.size + 1)) #[] #[]] ++ lb, W1, (by rw [hW1, hrec]; exact run_enterLoop_outer _ _ _ _ _), ?_, (fun _ _ => trivial), ?_, (fun h => absurd h (by simp [Fence.wide])), ?_⟩
  · simp only [resolve, hg]
    simp [go_sem]
  · simp [invoke, go_sem, eg]
  · refine (hseq (w.heap.size + 1) (n - 1) (fun k W => I k W ∧ W.heap[w.heap.size + 1]? = some (.loop (rec .ready none)) ∧ W.heap[w.heap.size]? = some (.deferred (some []))) W1 ?_ ?_ ⟨hI1, hL0, hD0⟩ hK1).mono ?_
    · rintro k A B ⟨hi, hl, hd⟩ hg'
      refine ⟨hI _ _ _ _ hi hg' (fun r e => .inl (by injection e with e; exact e.symm)), ?_, ?_⟩
      · exact (hg'.block _ (Array.getElem?_eq_some_iff.1 hl).1 (by intro e; injection e; omega)).trans hl
      · exact (hg'.block _ (Array.getElem?_eq_some_iff.1 hd).1 (by intro e; injection e; omega)).trans hd
    · rintro k W hk ⟨hi, hl, hd⟩
      have hlt : w.heap.size + 1 < W.heap.size := (Array.getElem?_eq_some_iff.1 hl).1
      have hy := run_yield (P := P) (args := enc k) hl (by rw [hrec]; exact hps k)
      rw [hrec] at hy
      refine ⟨fn, _, assign, body, hy, fun m' => roundIn_of_wpIn trivial (hassign _ m' k W _ ?_)⟩
      have hl2 : (W.putObj (w.heap.size + 1) (.loop { rec .ready none with state := .busy })).heap[w.heap.size + 1]? = some (.loop { rec .ready none with state := .busy }) := World.putObj_heap_same hlt
      have hd2 : (W.putObj (w.heap.size + 1) (.loop { rec .ready none with state := .busy })).heap[w.heap.size]? = some (.deferred (some [])) := (World.putObj_heap_other (by omega)).trans hd
      have hI2 := hI _ _ _ _ hi (grownBy_putObj' W (w.heap.size + 1) (.loop { rec .ready none with state := .busy })) (fun r e => .inr (by injection e with e; subst e; exact ⟨by omega, _, hl, rfl⟩))
      refine ⟨_, run_beginRound hl (by rw [hrec]), wpIn_mono (hbody _ m' k _ hk hI2 (by simp; omega)) ?_⟩
      rintro e a3 W3 ⟨rfl, hk3, hkp3, hi3⟩
      have hl3 := hk3.same _ _ (by omega) hl2 rfl
      have hd3 := hk3.same _ _ (Nat.le_refl _) hd2 rfl
      have hr := run_endRound (P := P) none hl3
      have hl4 : (W3.putObj (w.heap.size + 1) (.loop (rec .ready none))).heap[w.heap.size + 1]? = some (.loop (rec .ready none)) := World.putObj_heap_same (Array.getElem?_eq_some_iff.1 hl3).1
      have hd4 : (W3.putObj (w.heap.size + 1) (.loop (rec .ready none))).heap[w.heap.size]? = some (.deferred (some [])) := (World.putObj_heap_other (by omega)).trans hd3
      have hI4 := hI _ _ _ _ hi3 (grownBy_putObj' W3 (w.heap.size + 1) (.loop (rec .ready none))) (fun r e => .inr (by injection e with e; subst e; exact ⟨by omega, _, hl3, rfl⟩))
      refine ⟨_, _, hr, rfl, ⟨?_, ?_, ?_⟩, ?_⟩
      · rw [hrec] at hI4 ⊢; exact hI4
      · rw [hrec] at hl4 ⊢; exact hl4
      · rw [hrec] at hd4 ⊢; exact hd4
      · exact hKt (hKt (hKb _ _ _ _ (by omega) hl) hkp3) (hKb _ _ _ _ (by omega) hl3)
    · rintro e W2 ⟨⟨v, rfl⟩, hi, hl, hd⟩
      have he := run_endLoop (P := P) hl (by rw [hrec]; simp)
      have hi2 := hI _ _ _ _ hi (grownBy_putObj' W2 (w.heap.size + 1) (.loop { rec .ready none with state := .exhausted })) (fun r e => .inr (by injection e with e; subst e; exact ⟨by omega, _, hl, rfl⟩))
      refine ⟨none, _, by rw [he, hrec], hdone _ _ (Nat.le_refl _) hi2 ((World.putObj_heap_other (by omega)).trans hd)⟩
end Go.Proofs.U
end

section
namespace Go.Proofs.U
open Go.RowKit
set_option linter.unusedVariables false
section
variable {P : Program} {ops : Array Oper} {Q : Exit → Act → World → Prop} {σ : Type}
def dstB (ops : Array Oper) (base : Nat) : Bool := (List.range ops.size).all fun i => match ops[i]?.bind (·.dst) with
  | none => true
  | some d => d == base + i
/-- what must have been done ahead of an operation -/
def deps (o : Oper) : List Nat := (o.after.toList.filter (Region.binds .any)).map (·.on)
structure Held (ops : Array Oper) (V : σ → Nat → Value) (St : σ → Array Bool → World → Prop) (f : Act) (base sz : Nat) (listed : Array Bool) (a : Act) (w : World) (s : σ) : Prop where
  size : a.tmps.size = sz
  lsz : listed.size = ops.size
  defers : a.defers = f.defers
  old : ∀ j, j < base → a.tmps.getD j undef = f.tmps.getD j undef
  now : ∀ i, listed.getD i false = true → (ops[i]?.bind (·.dst)).isSome = true → a.tmps.getD (base + i) undef = V s i
  st : St s listed w
theorem getD_set_eq {listed : Array Bool} {i : Nat} (h : i < listed.size) : (listed.setIfInBounds i true).getD i false = true := by simp [h]
theorem getD_set_iff {listed : Array Bool} {i j : Nat} (h : i < listed.size) : (listed.setIfInBounds i true).getD j false = true ↔ j = i ∨ listed.getD j false = true := by
  by_cases e : i = j
  · subst e; simp [h]
  · rw [getD_set_ne false e]; simp [show ¬ j = i from fun h => e h.symm]
theorem tmps_set_ne {t : Array Value} {i j : Nat} (v : Value) (h : i ≠ j) : (t.setIfInBounds i v).getD j undef = t.getD j undef := by
  simp only [Array.getD_eq_getD_getElem?, Array.getElem?_setIfInBounds, if_neg h]
theorem tmps_set_eq {t : Array Value} {i : Nat} (v : Value) (h : i < t.size) : (t.setIfInBounds i v).getD i undef = v := by simp [h]
theorem any_valsG {w : World} (V : σ → Nat → Value) (St : σ → Array Bool → World → Prop) (f : Act) (base sz : Nat) (hb : backB .any ops = true) (hd : dstB ops base = true) (hsz : base + ops.size ≤ sz)
    (hop : ∀ (i : Nat) (o : Oper), ops[i]? = some o → ∀ (s : σ) (listed : Array Bool) (a : Act) (w : World), Held ops V St f base sz listed a w s → listed.getD i false = false → (∀ j ∈ deps o, listed.getD j false = true) →
      ∀ K : Act → World → Prop, (∀ s' v w', (o.dst.isSome = true → v = V s' i) → (∀ j, listed.getD j false = true → V s' j = V s j) → St s' (listed.setIfInBounds i true) w' → K (a.put o.dst v) w') → if Region.wanted o (yielded ops a.tmps) = true then Oper.wp P o a w K Q else K (a.put o.dst undef) w)
    (h0 : f.tmps.size = sz) (s0 : σ) (hst : St s0 (Array.replicate ops.size false) w)
    (hend : ∀ s listed a w, Held ops V St f base sz listed a w s → (∀ i, i < ops.size → listed.getD i true = true) → Q .normal a w) :
    wpAny P .any ops Q ops.size (Array.replicate ops.size false) f w := by
  refine wpAny_inv (fun listed a w => ∃ s, Held ops V St f base sz listed a w s) hb ?_ ?_ _ _ _ _ (by simp) ?_ ⟨s0, h0, by simp, rfl, fun _ _ => rfl, fun i hi => ?_, hst⟩
  · rintro i o ho listed a w ⟨s, H⟩ hl hdep K hK
    have hlt := (Array.getElem?_eq_some_iff.1 ho).1
    have hlf : listed.getD i false = false := by
      have h1 : i < listed.size := by rw [H.lsz]; exact hlt
      rw [Array.getD_eq_getD_getElem?, Array.getElem?_eq_getElem h1] at hl ⊢
      exact hl
    refine hop i o ho s listed a w H hlf (fun j hj => by
      obtain ⟨e, he, rfl⟩ := List.mem_map.1 hj
      have := List.mem_filter.1 he
      exact hdep e (by simpa using this.1) this.2) K fun s' v w' hv hV hst' => ?_
    refine hK _ _ ⟨s', ?_⟩
    have hdi := List.all_eq_true.1 hd i (List.mem_range.2 hlt)
    rw [ho] at hdi
    cases hdst : o.dst with
    | none =>
      refine ⟨H.size, by simpa using H.lsz, H.defers, H.old, fun j hj hs => ?_, hst'⟩
      rcases (getD_set_iff (by rw [H.lsz]; exact hlt)).1 hj with rfl | hj
      · rw [ho] at hs; simp [hdst] at hs
      · rw [hV j hj]; exact H.now j hj hs
    | some d =>
      simp only [Option.bind_some, hdst, beq_iff_eq] at hdi
      subst hdi
      refine ⟨by simpa [Act.put] using H.size, by simpa using H.lsz, H.defers, fun j hj => ?_, fun j hj hs => ?_, hst'⟩
      · exact (tmps_set_ne v (by omega)).trans (H.old j hj)
      · rcases (getD_set_iff (by rw [H.lsz]; exact hlt)).1 hj with rfl | hj'
        · rw [← hv (by rw [hdst]; rfl)]; exact tmps_set_eq v (by rw [H.size]; omega)
        · rw [hV j hj', ← H.now j hj' hs]
          refine tmps_set_ne v fun e => ?_
          obtain rfl : i = j := by omega
          rw [hlf] at hj'; cases hj'
  · rintro listed a w ⟨s, H⟩ hall
    exact hend s listed a w H hall
  · have : ∀ n (l : Array Bool), undone l n ≤ n := by
      intro n l
      induction n with
      | zero => exact Nat.le_refl _
      | succ n ih => unfold undone; split <;> omega
    exact this _ _
  · exfalso
    rw [Array.getD_eq_getD_getElem?] at hi
    by_cases h : i < ops.size <;> simp [h] at hi
theorem any_vals {w : World} (V : σ → Nat → Value) (St : σ → Array Bool → World → Prop) (f : Act) (base sz : Nat) (hb : backB .any ops = true) (hd : dstB ops base = true) (hsz : base + ops.size ≤ sz) (hg : ops.all (fun o => o.guard.isNone) = true)
    (hop : ∀ (i : Nat) (o : Oper), ops[i]? = some o → ∀ (s : σ) (listed : Array Bool) (a : Act) (w : World), Held ops V St f base sz listed a w s → listed.getD i false = false → (∀ j ∈ deps o, listed.getD j false = true) →
      ∀ K : Act → World → Prop, (∀ s' v w', (o.dst.isSome = true → v = V s' i) → (∀ j, listed.getD j false = true → V s' j = V s j) → St s' (listed.setIfInBounds i true) w' → K (a.put o.dst v) w') → Oper.wp P o a w K Q)
    (h0 : f.tmps.size = sz) (s0 : σ) (hst : St s0 (Array.replicate ops.size false) w)
    (hend : ∀ s listed a w, Held ops V St f base sz listed a w s → (∀ i, i < ops.size → listed.getD i true = true) → Q .normal a w) :
    wpAny P .any ops Q ops.size (Array.replicate ops.size false) f w :=
  any_valsG V St f base sz hb hd hsz (fun i o ho s listed a w H hl hdep K hK => by
    have hlt := (Array.getElem?_eq_some_iff.1 ho).1
    have hgd : o.guard = none := by
      have := Array.all_eq_true.1 hg i hlt
      rw [(Array.getElem?_eq_some_iff.1 ho).2] at this
      simpa using this
    rw [if_pos (by simp [Region.wanted, hgd])]
    exact hop i o ho s listed a w H hl hdep K hK) h0 s0 hst hend
theorem wanted_of {o : Oper} {a : Act} {g : Nat} {b v : Bool} {d : Nat} (hg : o.guard = some (g, b)) (hd : ops[g]?.bind (·.dst) = some d) (hv : a.tmps.getD d undef = .bool v) : Region.wanted o (yielded ops a.tmps) = (v == b) := by
  have : a.tmps[d]? = some (.bool v) := by
    rw [Array.getD_eq_getD_getElem?] at hv
    rcases hq : a.tmps[d]? with _ | x
    · rw [hq] at hv; cases hv
    · rw [hq] at hv; simp at hv; rw [hv]
  have hy : yielded ops a.tmps g = some v := by
    unfold yielded
    rw [hd]
    simp [this]
  simp only [Region.wanted, hg, hy]
  cases v <;> cases b <;> rfl
theorem wp_value {o : Oper} {a : Act} {w w' : World} {K : Act → World → Prop} {v : Value} (h : ∀ ρ : Operand → Value, (∀ x, ρ x = a.eval x) → (execOp ρ o).run P w = .ok (.value v) w') (hK : K (a.put o.dst v) w') : o.wp P a w K Q := by
  unfold Oper.wp; rw [h _ fun _ => rfl]; exact hK
theorem wp_unit {o : Oper} {a : Act} {w w' : World} {K : Act → World → Prop} (h : ∀ ρ : Operand → Value, (∀ x, ρ x = a.eval x) → (execOp ρ o).run P w = .ok .skip w') (hK : K (a.put o.dst undef) w') : o.wp P a w K Q := by
  unfold Oper.wp; rw [h _ fun _ => rfl]; exact hK
theorem Held.ev {V : σ → Nat → Value} {St : σ → Array Bool → World → Prop} {f : Act} {base sz : Nat} {listed : Array Bool} {a : Act} {w : World} {s : σ} (H : Held ops V St f base sz listed a w s) (i : Nat) (h : listed.getD i false = true) (hs : (ops[i]?.bind (·.dst)).isSome = true := by rfl) : a.eval (.tmp (base + i)) = V s i := H.now i h hs
theorem Held.ev0 {V : σ → Nat → Value} {St : σ → Array Bool → World → Prop} {f : Act} {base sz : Nat} {listed : Array Bool} {a : Act} {w : World} {s : σ} (H : Held ops V St f base sz listed a w s) (j : Nat) (h : j < base) : a.eval (.tmp j) = f.eval (.tmp j) := H.old j h
end
end Go.Proofs.U
end
