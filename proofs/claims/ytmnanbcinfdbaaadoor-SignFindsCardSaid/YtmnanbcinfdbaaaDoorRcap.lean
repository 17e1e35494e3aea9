/- A range over a function that keeps what is left in a captured cell; conditions: none beyond its hypotheses. -/
import Derived.Test.YtmnanbcinfdbaaaDoorRin
import Derived.RangeFuncNested
import Derived.RangeFuncLeaves
namespace Go.Proofs.U
open Go.RowKit
set_option linter.unusedVariables false
/-- what an iterator that keeps its state in the cell of block Bn owes: N rounds, the k-th of what enc tells -/
def SeqCap (P : Program) (gf : Nat) (lb : Array Value) (Bn N : Nat) (enc : Nat → Array Value) (Kp : World → World → Prop) (w : World) : Prop :=
  ∀ (l m : Nat) (J : Nat → World → Prop) (W : World), (∀ k A B, J k A → A.grownBy B (some Bn) → J k B) →
    (∀ k W, k < N → J k W → ∃ fn tmps assign body, (Instr.yield l (enc k)).run P W = .ok (.round l fn tmps assign body) W ∧ ∀ m', RoundIn Fence.wide m' P l fn tmps assign body W fun e W' => e = .returned (.bool true) ∧ J (k + 1) W' ∧ Kp W W') →
    J 0 W → Kp w W → CallsIn Fence.wide m P gf (#[.func (.yield l) #[] #[]] ++ lb) W fun e W' => (∃ v, e = .returned v) ∧ J N W'
theorem range_cap {P : Program} {n : Nat} {g : Operand} {ps : Array Tmp} {assign body : Code} {Q : Exit → Act → World → Prop} {a : Act} {w : World} {gf : Nat} {lb : Array Value} {Bn N : Nat} {enc : Nat → Array Value} {Kp : World → World → Prop}
    (hg : a.eval g = .func (.func gf) #[] lb) (eg : ∀ args w, (callFunc gf args).run P w = .ok (.enter gf args) w) (hps : ∀ k, (enc k).size = ps.size) (hseq : SeqCap P gf lb Bn N enc Kp w) (hBn : Bn < w.heap.size)
    (hKt : ∀ {A B C : World}, Kp A B → Kp B C → Kp A C) (hKa : ∀ (W : World) (o : Obj), w.heap.size ≤ W.heap.size → Kp W (W.alloc o)) (hKb : ∀ (W : World) (l : Nat) (o o' : Obj), w.heap.size ≤ l → W.heap[l]? = some o → Kp W (W.putObj l o'))
    (I : Nat → World → Prop) (hI : ∀ k A B row, I k A → A.grownBy B row → (∀ r, row = some r → r = Bn ∨ (w.heap.size ≤ r ∧ ∃ o : Obj, A.heap[r]? = some o ∧ o.isCells = false)) → I k B) (h0 : I 0 w) (a₁ : Nat → Act)
    (hassign : ∀ (l m k : Nat) (W : World) (K : Act → World → Prop), K (a₁ k) W →
      assign.wpIn (Fence.wide.inRound l) m P (Exit.then K (fun _ _ _ => False)) { tmps := (ps.zip (enc k)).foldl (fun t (p, v) => t.setIfInBounds p v) a.tmps, defers := [] } W)
    (hbody : ∀ (l m k : Nat) (W : World), k < N → I k W → w.heap.size ≤ W.heap.size → body.wpIn (Fence.wide.inRound l) m P (fun e _ W' => e = .normal ∧ KeepsFrom w.heap.size W W' ∧ Kp W W' ∧ I (k + 1) W') (a₁ k) W)
    (hdone : ∀ (D : Nat) (W : World), w.heap.size ≤ D → I N W → W.heap[D]? = some (.deferred (some [])) → Q .normal { a with defers := { target := .collected D, args := #[] } :: a.defers } W) :
    (Code.rangeFunc g ps assign body).wpIn Fence.wide n P Q a w := by
  refine wpIn_rangeFunc fun fn _ => ?_
  obtain ⟨rec, hrec⟩ : ∃ rec : LoopState → Option Code → Loop, rec = fun st pe => { state := st, pending := pe, fn, tmps := a.tmps, params := ps, assign, body, defers := w.heap.size } := ⟨_, rfl⟩
  have hL0 := World.alloc_heap_new (w.alloc (.deferred (some []))) (.loop (rec .ready none))
  rw [World.size_alloc] at hL0
  have hD0 : ((w.alloc (.deferred (some []))).alloc (.loop (rec .ready none))).heap[w.heap.size]? = some (.deferred (some [])) := (Below.heap_alloc _ _ _ (by simp)).trans (World.alloc_heap_new w _)
  have hn1 : ∀ (W : World) (o : Obj), W.grownBy (W.alloc o) none := fun W o => World.grownBy_alloc W o none
  have hI1 : I 0 ((w.alloc (.deferred (some []))).alloc (.loop (rec .ready none))) := hI _ _ _ none (hI _ _ _ none h0 (hn1 _ _) (fun r e => by cases e)) (hn1 _ _) (fun r e => by cases e)
  have hK1 : Kp w ((w.alloc (.deferred (some []))).alloc (.loop (rec .ready none))) := hKt (hKa _ _ (Nat.le_refl _)) (hKa _ _ (by simp))
  obtain ⟨W1, hW1⟩ : ∃ W1, W1 = (w.alloc (.deferred (some []))).alloc (.loop (rec .ready none)) := ⟨_, rfl⟩
  rw [← hW1] at hL0 hD0 hI1 hK1
  refine ⟨w.heap.size + 1, [{ target := .collected w.heap.size, args := #[] }], W1, { target := .fn (.func gf) lb, args := #[.func (.yield (w.heap.size + 1)) #[] #[]] }, W1, gf,
    #[.func (.yield (w.heap.size + 1)) #[] #[]] ++ lb, W1, (by rw [hW1, hrec]; exact run_enterLoop_outer _ _ _ _ _), ?_, (fun _ _ => trivial), ?_, (fun h => absurd h (by simp [Fence.wide])), ?_⟩
  · simp only [resolve, hg]
    simp [go_sem]
  · simp [invoke, go_sem, eg]
  · refine (hseq (w.heap.size + 1) (n - 1) (fun k W => I k W ∧ W.heap[w.heap.size + 1]? = some (.loop (rec .ready none)) ∧ W.heap[w.heap.size]? = some (.deferred (some []))) W1 ?_ ?_ ⟨hI1, hL0, hD0⟩ hK1).mono ?_
    · rintro k A B ⟨hi, hl, hd⟩ hg'
      refine ⟨hI _ _ _ _ hi hg' (fun r e => .inl (by injection e with e; exact e.symm)), ?_, ?_⟩
      · exact (hg'.block _ (Array.getElem?_eq_some_iff.1 hl).1 (by intro e; injection e; omega)).trans hl
      · exact (hg'.block _ (Array.getElem?_eq_some_iff.1 hd).1 (by intro e; injection e; omega)).trans hd
    · rintro k W hk ⟨hi, hl, hd⟩
      have hlt : w.heap.size + 1 < W.heap.size := (Array.getElem?_eq_some_iff.1 hl).1
      have hy := run_yield (P := P) (args := enc k) hl (by rw [hrec]; exact hps k)
      rw [hrec] at hy
      refine ⟨fn, _, assign, body, hy, fun m' => roundIn_of_wpIn trivial (hassign _ m' k W _ ?_)⟩
      have hl2 : (W.putObj (w.heap.size + 1) (.loop { rec .ready none with state := .busy })).heap[w.heap.size + 1]? = some (.loop { rec .ready none with state := .busy }) := World.putObj_heap_same hlt
      have hd2 : (W.putObj (w.heap.size + 1) (.loop { rec .ready none with state := .busy })).heap[w.heap.size]? = some (.deferred (some [])) := (World.putObj_heap_other (by omega)).trans hd
      have hI2 := hI _ _ _ _ hi (grownBy_putObj' W (w.heap.size + 1) (.loop { rec .ready none with state := .busy })) (fun r e => .inr (by injection e with e; subst e; exact ⟨by omega, _, hl, rfl⟩))
      refine ⟨_, run_beginRound hl (by rw [hrec]), wpIn_mono (hbody _ m' k _ hk hI2 (by simp; omega)) ?_⟩
      rintro e a3 W3 ⟨rfl, hk3, hkp3, hi3⟩
      have hl3 := hk3.same _ _ (by omega) hl2 rfl
      have hd3 := hk3.same _ _ (Nat.le_refl _) hd2 rfl
      have hr := run_endRound (P := P) none hl3
      have hl4 : (W3.putObj (w.heap.size + 1) (.loop (rec .ready none))).heap[w.heap.size + 1]? = some (.loop (rec .ready none)) := World.putObj_heap_same (Array.getElem?_eq_some_iff.1 hl3).1
      have hd4 : (W3.putObj (w.heap.size + 1) (.loop (rec .ready none))).heap[w.heap.size]? = some (.deferred (some [])) := (World.putObj_heap_other (by omega)).trans hd3
      have hI4 := hI _ _ _ _ hi3 (grownBy_putObj' W3 (w.heap.size + 1) (.loop (rec .ready none))) (fun r e => .inr (by injection e with e; subst e; exact ⟨by omega, _, hl3, rfl⟩))
      refine ⟨_, _, hr, rfl, ⟨?_, ?_, ?_⟩, ?_⟩
      · rw [hrec] at hI4 ⊢; exact hI4
      · rw [hrec] at hl4 ⊢; exact hl4
      · rw [hrec] at hd4 ⊢; exact hd4
      · exact hKt (hKt (hKb _ _ _ _ (by omega) hl) hkp3) (hKb _ _ _ _ (by omega) hl3)
    · rintro e W2 ⟨⟨v, rfl⟩, hi, hl, hd⟩
      have he := run_endLoop (P := P) hl (by rw [hrec]; simp)
      have hi2 := hI _ _ _ _ hi (grownBy_putObj' W2 (w.heap.size + 1) (.loop { rec .ready none with state := .exhausted })) (fun r e => .inr (by injection e with e; subst e; exact ⟨by omega, _, hl, rfl⟩))
      refine ⟨none, _, by rw [he, hrec], hdone _ _ (Nat.le_refl _) hi2 ((World.putObj_heap_other (by omega)).trans hd)⟩
end Go.Proofs.U
