/- Arrays of integers compared: one with itself; conditions: those of the hypotheses. -/
import Derived.Test.YtmnanbcinfdbaaaDoorU
import Derived.Laws.StructEq
namespace Go.Proofs.U
open Go.RowKit
set_option linter.unusedVariables false
theorem run_eq_arr {P : Program} (w : World) (d : Nat) (t e : TypeId) (n : Nat) (kk : IntKind) (cs : Array Value) (ht : P.underlying t = some (.array n e)) (hu : P.underlying e = some (.int kk)) (he : (P.info? e).map (·.size) = some 1)
    (hc : ∀ i, i < n → ∃ x : Int, cs[i]? = some (.int kk x)) : (Op.equalIn (d + 2) t (.agg cs) (.agg cs)).run P w = .ok true w := by
  cases hq : P.info? e with
  | none => simp [hq] at he
  | some inf =>
    have hs : inf.size = 1 := by simpa [hq] using he
    unfold Op.equalIn
    simp only [Sem.run_bind, run_underlying ht, Result.andThen_ok, sizeOf, typeInfo, run_program, hq, hs, Sem.run_pure, Nat.mul_one]
    rw [Std.Legacy.Range.forIn_eq_forIn_range']
    have hmem : ∀ i ∈ List.range' ([0:n] : Std.Legacy.Range).start ([0:n] : Std.Legacy.Range).size ([0:n] : Std.Legacy.Range).step, i < n := by
      intro i hi
      simp [Std.Legacy.Range.size] at hi
      omega
    generalize List.range' ([0:n] : Std.Legacy.Range).start ([0:n] : Std.Legacy.Range).size ([0:n] : Std.Legacy.Range).step = l at hmem ⊢
    induction l with
    | nil => simp
    | cons i l ih =>
      obtain ⟨x, hx⟩ := hc i (hmem i (by simp))
      have hp : (part e cs i).run P w = .ok (.int kk x) w := by
        simp [part, isAgg, run_underlying hu, hx]
      simp only [List.forIn_cons, Sem.run_bind, hp, Result.andThen_ok, run_equalIn_int w d e kk kk x x hu, BEq.rfl, Bool.not_true, Bool.false_eq_true, if_false, Sem.run_pure]
      exact ih fun j hj => hmem j (by simp [hj])
theorem wpList_wanted {P : Program} {w : World} {ops : Array Oper} {rest : List Oper} {o : Oper} {a : Act} {Q : Exit → Act → World → Prop} (hw : Region.wanted o (yielded ops a.tmps) = true)
    (h : ∀ K : Act → World → Prop, (∀ a w, wpList P ops Q rest a w → K a w) → o.wp P a w K Q) : wpList P ops Q (o :: rest) a w :=
  wpList_step fun K hK => by rw [hw]; simp only [if_true]; exact h K hK
theorem wpList_appg {P : Program} {w : World} {t e : TypeId} (hB : Bt P t e) {ops : Array Oper} {rest : List Oper} {o : Oper} {a : Act} {Q : Exit → Act → World → Prop} (hw : Region.wanted o (yielded ops a.tmps) = true) (s x : Operand)
    (ho : o.op = .call { callee := .builtin .append, args := #[s, x], argTypes := #[t, t] })
    (base : Nat) (A : Option Addr) (n c : Nat) (bs : List UInt8) (hs : a.eval s = .slice A n c) (hown : Own w base e A n c bs)
    (B : Nat) (A' : Option Addr) (m c' : Nat) (bs' : List UInt8) (hx : a.eval x = .slice A' m c') (hr : BS w B A' m bs') (hlen : n + m ≤ 140737488355328) (hbase : base ≤ w.heap.size)
    (h : ∀ A2 c2 w2, Own w2 base e A2 (n + m) c2 (bs ++ bs') → w.grownBy w2 (Value.slice A n c).ownBlock → ((Value.slice A2 (n + m) c2).ownBlock = (Value.slice A n c).ownBlock ∨ (Value.slice A2 (n + m) c2).ownBlock = some w.heap.size) →
      wpList P ops Q rest (a.put o.dst (.slice A2 (n + m) c2)) w2) : wpList P ops Q (o :: rest) a w :=
  wpList_wanted hw fun _ hK => by
    obtain ⟨A2, c2, w2, hrun, h2, h3, h4⟩ := run_app (w := w) hB o.type base A n c bs hown B A' m c' bs' hr hlen hbase
    unfold Oper.wp execOp
    simp only [ho, resolve, invoke, builtin, Sem.run_bind, Sem.run_pure, Result.andThen_ok, List.map_toArray, List.map_cons, List.map_nil, hs, hx, hrun]
    exact hK _ _ (h A2 c2 w2 h2 h3 h4)
end Go.Proofs.U
