/- A region that draws its order, whose slots get values known ahead; conditions: none beyond their hypotheses. -/
import Derived.Test.YtmnanbcinfdbaaaDoorRin
namespace Go.Proofs.U
open Go.RowKit
set_option linter.unusedVariables false
section
variable {P : Program} {ops : Array Oper} {Q : Exit → Act → World → Prop} {σ : Type}
def dstB (ops : Array Oper) (base : Nat) : Bool := (List.range ops.size).all fun i => match ops[i]?.bind (·.dst) with
  | none => true
  | some d => d == base + i
/-- what must have been done ahead of an operation -/
def deps (o : Oper) : List Nat := (o.after.toList.filter (Region.binds .any)).map (·.on)
structure Held (ops : Array Oper) (V : σ → Nat → Value) (St : σ → Array Bool → World → Prop) (f : Act) (base sz : Nat) (listed : Array Bool) (a : Act) (w : World) (s : σ) : Prop where
  size : a.tmps.size = sz
  lsz : listed.size = ops.size
  defers : a.defers = f.defers
  old : ∀ j, j < base → a.tmps.getD j undef = f.tmps.getD j undef
  now : ∀ i, listed.getD i false = true → (ops[i]?.bind (·.dst)).isSome = true → a.tmps.getD (base + i) undef = V s i
  st : St s listed w
theorem getD_set_eq {listed : Array Bool} {i : Nat} (h : i < listed.size) : (listed.setIfInBounds i true).getD i false = true := by simp [h]
theorem getD_set_iff {listed : Array Bool} {i j : Nat} (h : i < listed.size) : (listed.setIfInBounds i true).getD j false = true ↔ j = i ∨ listed.getD j false = true := by
  by_cases e : i = j
  · subst e; simp [h]
  · rw [getD_set_ne false e]; simp [show ¬ j = i from fun h => e h.symm]
theorem tmps_set_ne {t : Array Value} {i j : Nat} (v : Value) (h : i ≠ j) : (t.setIfInBounds i v).getD j undef = t.getD j undef := by
  simp only [Array.getD_eq_getD_getElem?, Array.getElem?_setIfInBounds, if_neg h]
theorem tmps_set_eq {t : Array Value} {i : Nat} (v : Value) (h : i < t.size) : (t.setIfInBounds i v).getD i undef = v := by simp [h]
theorem any_valsG {w : World} (V : σ → Nat → Value) (St : σ → Array Bool → World → Prop) (f : Act) (base sz : Nat) (hb : backB .any ops = true) (hd : dstB ops base = true) (hsz : base + ops.size ≤ sz)
    (hop : ∀ (i : Nat) (o : Oper), ops[i]? = some o → ∀ (s : σ) (listed : Array Bool) (a : Act) (w : World), Held ops V St f base sz listed a w s → listed.getD i false = false → (∀ j ∈ deps o, listed.getD j false = true) →
      ∀ K : Act → World → Prop, (∀ s' v w', (o.dst.isSome = true → v = V s' i) → (∀ j, listed.getD j false = true → V s' j = V s j) → St s' (listed.setIfInBounds i true) w' → K (a.put o.dst v) w') → if Region.wanted o (yielded ops a.tmps) = true then Oper.wp P o a w K Q else K (a.put o.dst undef) w)
    (h0 : f.tmps.size = sz) (s0 : σ) (hst : St s0 (Array.replicate ops.size false) w)
    (hend : ∀ s listed a w, Held ops V St f base sz listed a w s → (∀ i, i < ops.size → listed.getD i true = true) → Q .normal a w) :
    wpAny P .any ops Q ops.size (Array.replicate ops.size false) f w := by
  refine wpAny_inv (fun listed a w => ∃ s, Held ops V St f base sz listed a w s) hb ?_ ?_ _ _ _ _ (by simp) ?_ ⟨s0, h0, by simp, rfl, fun _ _ => rfl, fun i hi => ?_, hst⟩
  · rintro i o ho listed a w ⟨s, H⟩ hl hdep K hK
    have hlt := (Array.getElem?_eq_some_iff.1 ho).1
    have hlf : listed.getD i false = false := by
      have h1 : i < listed.size := by rw [H.lsz]; exact hlt
      rw [Array.getD_eq_getD_getElem?, Array.getElem?_eq_getElem h1] at hl ⊢
      exact hl
    refine hop i o ho s listed a w H hlf (fun j hj => by
      obtain ⟨e, he, rfl⟩ := List.mem_map.1 hj
      have := List.mem_filter.1 he
      exact hdep e (by simpa using this.1) this.2) K fun s' v w' hv hV hst' => ?_
    refine hK _ _ ⟨s', ?_⟩
    have hdi := List.all_eq_true.1 hd i (List.mem_range.2 hlt)
    rw [ho] at hdi
    cases hdst : o.dst with
    | none =>
      refine ⟨H.size, by simpa using H.lsz, H.defers, H.old, fun j hj hs => ?_, hst'⟩
      rcases (getD_set_iff (by rw [H.lsz]; exact hlt)).1 hj with rfl | hj
      · rw [ho] at hs; simp [hdst] at hs
      · rw [hV j hj]; exact H.now j hj hs
    | some d =>
      simp only [Option.bind_some, hdst, beq_iff_eq] at hdi
      subst hdi
      refine ⟨by simpa [Act.put] using H.size, by simpa using H.lsz, H.defers, fun j hj => ?_, fun j hj hs => ?_, hst'⟩
      · exact (tmps_set_ne v (by omega)).trans (H.old j hj)
      · rcases (getD_set_iff (by rw [H.lsz]; exact hlt)).1 hj with rfl | hj'
        · rw [← hv (by rw [hdst]; rfl)]; exact tmps_set_eq v (by rw [H.size]; omega)
        · rw [hV j hj', ← H.now j hj' hs]
          refine tmps_set_ne v fun e => ?_
          obtain rfl : i = j := by omega
          rw [hlf] at hj'; cases hj'
  · rintro listed a w ⟨s, H⟩ hall
    exact hend s listed a w H hall
  · have : ∀ n (l : Array Bool), undone l n ≤ n := by
      intro n l
      induction n with
      | zero => exact Nat.le_refl _
      | succ n ih => unfold undone; split <;> omega
    exact this _ _
  · exfalso
    rw [Array.getD_eq_getD_getElem?] at hi
    by_cases h : i < ops.size <;> simp [h] at hi
theorem any_vals {w : World} (V : σ → Nat → Value) (St : σ → Array Bool → World → Prop) (f : Act) (base sz : Nat) (hb : backB .any ops = true) (hd : dstB ops base = true) (hsz : base + ops.size ≤ sz) (hg : ops.all (fun o => o.guard.isNone) = true)
    (hop : ∀ (i : Nat) (o : Oper), ops[i]? = some o → ∀ (s : σ) (listed : Array Bool) (a : Act) (w : World), Held ops V St f base sz listed a w s → listed.getD i false = false → (∀ j ∈ deps o, listed.getD j false = true) →
      ∀ K : Act → World → Prop, (∀ s' v w', (o.dst.isSome = true → v = V s' i) → (∀ j, listed.getD j false = true → V s' j = V s j) → St s' (listed.setIfInBounds i true) w' → K (a.put o.dst v) w') → Oper.wp P o a w K Q)
    (h0 : f.tmps.size = sz) (s0 : σ) (hst : St s0 (Array.replicate ops.size false) w)
    (hend : ∀ s listed a w, Held ops V St f base sz listed a w s → (∀ i, i < ops.size → listed.getD i true = true) → Q .normal a w) :
    wpAny P .any ops Q ops.size (Array.replicate ops.size false) f w :=
  any_valsG V St f base sz hb hd hsz (fun i o ho s listed a w H hl hdep K hK => by
    have hlt := (Array.getElem?_eq_some_iff.1 ho).1
    have hgd : o.guard = none := by
      have := Array.all_eq_true.1 hg i hlt
      rw [(Array.getElem?_eq_some_iff.1 ho).2] at this
      simpa using this
    rw [if_pos (by simp [Region.wanted, hgd])]
    exact hop i o ho s listed a w H hl hdep K hK) h0 s0 hst hend
theorem wanted_of {o : Oper} {a : Act} {g : Nat} {b v : Bool} {d : Nat} (hg : o.guard = some (g, b)) (hd : ops[g]?.bind (·.dst) = some d) (hv : a.tmps.getD d undef = .bool v) : Region.wanted o (yielded ops a.tmps) = (v == b) := by
  have : a.tmps[d]? = some (.bool v) := by
    rw [Array.getD_eq_getD_getElem?] at hv
    rcases hq : a.tmps[d]? with _ | x
    · rw [hq] at hv; cases hv
    · rw [hq] at hv; simp at hv; rw [hv]
  have hy : yielded ops a.tmps g = some v := by
    unfold yielded
    rw [hd]
    simp [this]
  simp only [Region.wanted, hg, hy]
  cases v <;> cases b <;> rfl
theorem wp_value {o : Oper} {a : Act} {w w' : World} {K : Act → World → Prop} {v : Value} (h : ∀ ρ : Operand → Value, (∀ x, ρ x = a.eval x) → (execOp ρ o).run P w = .ok (.value v) w') (hK : K (a.put o.dst v) w') : o.wp P a w K Q := by
  unfold Oper.wp; rw [h _ fun _ => rfl]; exact hK
theorem wp_unit {o : Oper} {a : Act} {w w' : World} {K : Act → World → Prop} (h : ∀ ρ : Operand → Value, (∀ x, ρ x = a.eval x) → (execOp ρ o).run P w = .ok .skip w') (hK : K (a.put o.dst undef) w') : o.wp P a w K Q := by
  unfold Oper.wp; rw [h _ fun _ => rfl]; exact hK
theorem Held.ev {V : σ → Nat → Value} {St : σ → Array Bool → World → Prop} {f : Act} {base sz : Nat} {listed : Array Bool} {a : Act} {w : World} {s : σ} (H : Held ops V St f base sz listed a w s) (i : Nat) (h : listed.getD i false = true) (hs : (ops[i]?.bind (·.dst)).isSome = true := by rfl) : a.eval (.tmp (base + i)) = V s i := H.now i h hs
theorem Held.ev0 {V : σ → Nat → Value} {St : σ → Array Bool → World → Prop} {f : Act} {base sz : Nat} {listed : Array Bool} {a : Act} {w : World} {s : σ} (H : Held ops V St f base sz listed a w s) (j : Nat) (h : j < base) : a.eval (.tmp j) = f.eval (.tmp j) := H.old j h
end
end Go.Proofs.U
