/- Numbers of a message that was read fit; conditions: none. -/
import Derived.Test.YthhhiiagppckhaaGreatDoorMgMp
set_option linter.unusedSimpArgs false
set_option linter.unusedVariables false
section
namespace Go.Proofs.Ms
open Go.Proofs.Gr
set_option linter.unusedVariables false
theorem enum_max (b : List UInt8) (f : Nat) : (enum MAX b f).1 < 18446744073709551616 := Nat.lt_of_le_of_lt (enum_le MAX b f) (by decide)
theorem drow_wf (b : List UInt8) (f : Nat) : (drow b f).1.version < 18446744073709551616 ∧ (drow b f).1.stamp < 18446744073709551616 := by
  unfold drow; exact ⟨enum_max _ _, enum_max _ _⟩
theorem drows_wf : ∀ (n : Nat) (b : List UInt8) (f : Nat), (drows n b f).1.length ≤ n ∧ ∀ x ∈ (drows n b f).1, x.version < 18446744073709551616 ∧ x.stamp < 18446744073709551616
  | 0, b, f => ⟨Nat.le_refl _, by intro x hx; cases hx⟩
  | n + 1, b, f => by
    unfold drows
    split
    · obtain ⟨h1, h2⟩ := drows_wf n (drow b f).2.1 (drow b f).2.2
      refine ⟨by simp only [List.length_cons]; omega, fun x hx => ?_⟩
      rcases List.mem_cons.1 hx with rfl | hx
      · exact drow_wf b f
      · exact h2 x hx
    · exact ⟨Nat.zero_le _, by intro x hx; cases hx⟩
/-- numbers that fit, and few rows -/
def Fit (m : Msg) : Prop := m.session < 18446744073709551616 ∧ m.n < 18446744073709551616 ∧ m.version < 18446744073709551616 ∧ m.attempt < 18446744073709551616 ∧ m.stamp < 18446744073709551616 ∧
  (∀ x ∈ m.rows, x.version < 18446744073709551616 ∧ x.stamp < 18446744073709551616) ∧ m.rows.length ≤ 8
theorem ite_fit {p : Prop} [Decidable p] {a b : St} (h1 : Fit a.1) (h2 : Fit b.1) : Fit (if p then a else b).1 := by
  split
  · exact h1
  · exact h2
theorem step_fit (c : UInt8) (s : St) (h : Fit s.1) : Fit (step c s).1 := by
  obtain ⟨h1, h2, h3, h4, h5, h6, h7⟩ := h
  have hr : Fit {s.1 with rows := (rowsP s.2.1 s.2.2).1} := by
    have hd := drows_wf (enum 8 s.2.1 s.2.2).1 (enum 8 s.2.1 s.2.2).2.1 (enum 8 s.2.1 s.2.2).2.2
    have he := enum_le 8 s.2.1 s.2.2
    exact ⟨h1, h2, h3, h4, h5, hd.2, Nat.le_trans hd.1 he⟩
  unfold step
  repeat' refine ite_fit ?_ ?_
  all_goals first
    | exact ⟨h1, h2, h3, h4, h5, h6, h7⟩
    | exact ⟨enum_max _ _, h2, h3, h4, h5, h6, h7⟩
    | exact ⟨h1, enum_max _ _, h3, h4, h5, h6, h7⟩
    | exact ⟨h1, h2, enum_max _ _, h4, h5, h6, h7⟩
    | exact ⟨h1, h2, h3, enum_max _ _, h5, h6, h7⟩
    | exact ⟨h1, h2, h3, h4, enum_max _ _, h6, h7⟩
    | exact hr
theorem steps_fit : ∀ (l : List UInt8) (s : St), Fit s.1 → Fit (steps l s).1
  | [], s, h => h
  | c :: l, s, h => by rw [steps_cons]; exact steps_fit l _ (step_fit c s h)
theorem zero_fit : Fit zero := ⟨by decide, by decide, by decide, by decide, by decide, (fun x hx => by cases hx), by decide⟩
theorem readP_fit (b : List UInt8) : Fit (readP b).1 := by
  unfold readP
  simp only
  split
  · exact zero_fit
  · split
    · exact zero_fit
    · exact steps_fit _ _ zero_fit
end Go.Proofs.Ms
end
