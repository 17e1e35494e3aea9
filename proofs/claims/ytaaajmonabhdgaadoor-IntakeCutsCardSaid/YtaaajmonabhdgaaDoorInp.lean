/- Plain laws of the intake: what comes piece by piece; conditions: none beyond their hypotheses. -/
import Derived.Test.YtaaajmonabhdgaaDoorFrp
namespace Go.Proofs.YtaaajmonabhdgaaDoor
open Go.RowKit Go.Proofs.U
set_option linter.unusedVariables false

theorem flen_more (a r : List UInt8) (h : 6 ≤ a.length) : flen (a ++ r) = flen a := by
  unfold flen
  rw [List.take_append_of_le_length h, if_neg (by simp; omega), if_neg (by omega)]
/-- bytes that are not yet a frame -/
def Part (a : List UInt8) : Prop := (ftake a).2.2 = 11
theorem ftake_cases (a : List UInt8) : (a.length < 6 ∧ ftake a = ([], 0, 11)) ∨
    (6 ≤ a.length ∧ (flen a).2 ≠ 0 ∧ (flen a).2 ≠ 11 ∧ ftake a = ([], 0, (flen a).2)) ∨
    (6 ≤ a.length ∧ (flen a).2 = 0 ∧ a.length < (flen a).1 + 10 ∧ ftake a = ([], 0, 11)) ∨
    (6 ≤ a.length ∧ (flen a).2 = 0 ∧ (flen a).1 + 10 ≤ a.length ∧ ftake a = ([], 0, 14)) ∨
    (6 ≤ a.length ∧ (flen a).2 = 0 ∧ (flen a).1 + 10 ≤ a.length ∧ ∃ p, opn ((a.drop 6).take ((flen a).1 + 4)) = (p, 0) ∧ ftake a = (p, (flen a).1 + 10, 0)) := by
  rcases flen_code a with ⟨h0, h6⟩ | ⟨h0, h6⟩ | ⟨h0, h6⟩ | ⟨h0, h6⟩
  · obtain ⟨k, hk⟩ : ∃ k, flen a = (k, 0) := ⟨(flen a).1, by rw [← h0]⟩
    by_cases hs : a.length < k + 10
    · right; right; left
      refine ⟨h6, h0, by rw [hk]; exact hs, ?_⟩
      unfold ftake; rw [hk]; simp [hs]
    · rcases opn_code ((a.drop 6).take (k + 4)) (by simp; omega) with ⟨h1, _⟩ | h1
      · right; right; right; right
        refine ⟨h6, h0, by rw [hk]; simpa using hs, _, by rw [hk, ← h1], ?_⟩
        unfold ftake; rw [hk]; simp [hs, h1]
      · right; right; right; left
        refine ⟨h6, h0, by rw [hk]; simpa using hs, ?_⟩
        unfold ftake; rw [hk]; simp [hs, h1]
  · left
    refine ⟨h6, ?_⟩
    unfold ftake; rw [show flen a = ((flen a).1, 11) by rw [← h0]]; simp
  all_goals
    right; left
    refine ⟨h6, by rw [h0]; simp, by rw [h0]; simp, ?_⟩
    unfold ftake; rw [show flen a = ((flen a).1, (flen a).2) from rfl, h0]; simp
theorem ftake_more (a r : List UInt8) (h : ¬ Part a) : ftake (a ++ r) = ftake a := by
  unfold Part at h
  rcases ftake_cases a with ⟨_, h1⟩ | ⟨h6, h1, h2, h3⟩ | ⟨_, _, _, h1⟩ | ⟨h6, h1, h2, h3⟩ | ⟨h6, h1, h2, p, h3, h4⟩
  · rw [h1] at h; simp at h
  · rw [h3]; unfold ftake; rw [flen_more a r h6, show flen a = ((flen a).1, (flen a).2) from rfl]; simp [h1]
  · rw [h1] at h; simp at h
  all_goals
    obtain ⟨k, hk⟩ : ∃ k, flen a = (k, 0) := ⟨(flen a).1, by rw [← h1]⟩
    rw [hk] at h2
    unfold ftake
    rw [flen_more a r h6, hk]
    simp only at h2 ⊢
    rw [List.drop_append_of_le_length h6, List.take_append_of_le_length (by simp; omega)]
    simp only [ne_eq, not_true_eq_false, if_false, show ¬ (a ++ r).length < k + 10 by simp; omega, show ¬ a.length < k + 10 by omega]
theorem part_nil : Part [] := by
  rcases ftake_cases [] with ⟨_, h1⟩ | ⟨h6, _⟩ | ⟨h6, _⟩ | ⟨h6, _⟩ | ⟨h6, _⟩
  · unfold Part; rw [h1]
  all_goals simp at h6
theorem part_need (a : List UInt8) (h : Part a) : ∃ k, fneed a = (k, 0) ∧ 1 ≤ k ∧ a.length + k ≤ 1410 ∧ ∀ x p n, x.length ≤ k → ftake (a ++ x) = (p, n, 0) → n = (a ++ x).length := by
  unfold Part at h
  rcases ftake_cases a with ⟨h6, h1⟩ | ⟨h6, h1, h2, h3⟩ | ⟨h6, h1, h2, h3⟩ | ⟨h6, h1, h2, h3⟩ | ⟨h6, h1, h2, p, h3, h4⟩
  · refine ⟨6 - a.length, ?_, by omega, by omega, fun x p n hx hp => ?_⟩
    · unfold fneed; rw [show flen a = (0, 11) by unfold flen; rw [if_pos h6]]; simp
    · rcases ftake_cases (a ++ x) with ⟨_, g⟩ | ⟨_, g1, _, g⟩ | ⟨_, _, _, g⟩ | ⟨_, _, _, g⟩ | ⟨_, _, g2, p, g3, g⟩
      · rw [g] at hp; simp at hp
      · rw [g] at hp; simp at hp; exact absurd hp.2.2 g1
      · rw [g] at hp; simp at hp
      · rw [g] at hp; simp at hp
      · simp at g2; omega
  · rw [h3] at h; exact absurd h h2
  · have hk := flen_lt a
    obtain ⟨k, hk0⟩ : ∃ k, flen a = (k, 0) := ⟨(flen a).1, by rw [← h1]⟩
    rw [hk0] at h2 hk
    simp only at h2 hk
    refine ⟨k + 10 - a.length, ?_, by omega, by omega, fun x p n hx hp => ?_⟩
    · unfold fneed; rw [hk0]; simp [h2]
    · have hf := flen_more a x h6
      rw [hk0] at hf
      rcases ftake_cases (a ++ x) with ⟨_, g⟩ | ⟨_, g1, _, g⟩ | ⟨_, _, _, g⟩ | ⟨_, _, _, g⟩ | ⟨_, _, g2, q, g3, g⟩
      · rw [g] at hp; simp at hp
      · rw [g] at hp; simp at hp; exact absurd hp.2.2 g1
      · rw [g] at hp; simp at hp
      · rw [g] at hp; simp at hp
      · rw [g, hf] at hp
        rw [hf] at g2
        simp only [Prod.mk.injEq, and_true] at hp
        simp only [List.length_append] at g2 ⊢
        omega
  · rw [h3] at h; simp at h
  · rw [h4] at h; simp at h
theorem part_lt (a : List UInt8) (h : Part a) : a.length < 1410 := by
  obtain ⟨k, _, h1, h2, _⟩ := part_need a h; omega

/-- what is taken of bytes, one behind the other; what is left over; the error's number -/
inductive Goes : List UInt8 → List (List UInt8) → List UInt8 → Int → Prop
  | stop {a} : Part a → Goes a [] a 0
  | bad {a e} : (ftake a).2.2 = e → e ≠ 0 → e ≠ 11 → Goes a [] [] e
  | more {a p n out r e} : ftake a = (p, n, 0) → Goes (a.drop n) out r e → Goes a (p :: out) r e
theorem ftake_pos {a p : List UInt8} {n : Nat} (h : ftake a = (p, n, 0)) : 10 ≤ n ∧ n ≤ a.length ∧ n = p.length + 10 := by
  rcases ftake_cases a with ⟨h6, h1⟩ | ⟨h6, h1, h2, h3⟩ | ⟨h6, h1, h2, h3⟩ | ⟨h6, h1, h2, h3⟩ | ⟨h6, h1, h2, q, h3, h4⟩
  · rw [h1] at h; simp at h
  · rw [h3] at h; simp at h; exact absurd h.2.2 h1
  · rw [h3] at h; simp at h
  · rw [h3] at h; simp at h
  · rw [h4] at h
    simp only [Prod.mk.injEq, and_true] at h
    obtain ⟨rfl, rfl⟩ := h
    refine ⟨by omega, h2, ?_⟩
    rcases opn_code ((a.drop 6).take ((flen a).1 + 4)) (by simp; omega) with ⟨g1, _, g3⟩ | g1
    · rw [h3] at g3
      simp only [List.length_take, List.length_drop] at g3
      omega
    · rw [h3] at g1; simp at g1
theorem Goes.det {a : List UInt8} {o r e o' r' e'} (h : Goes a o r e) (h' : Goes a o' r' e') : o = o' ∧ r = r' ∧ e = e' := by
  induction h generalizing o' r' e' with
  | stop h1 =>
    cases h' with
    | stop h2 => exact ⟨rfl, rfl, rfl⟩
    | bad h2 h3 h4 => exact absurd (h2.symm.trans h1) h4
    | more h2 _ => unfold Part at h1; rw [h2] at h1; simp at h1
  | bad h1 h2 h3 =>
    cases h' with
    | stop h4 => exact absurd (h1.symm.trans h4) h3
    | bad h4 _ _ => exact ⟨rfl, rfl, h1.symm.trans h4⟩
    | more h4 _ => rw [h4] at h1; exact absurd h1.symm h2
  | more h1 _ ih =>
    cases h' with
    | stop h2 => unfold Part at h2; rw [h1] at h2; simp at h2
    | bad h2 h3 _ => rw [h1] at h2; exact absurd h2.symm h3
    | more h2 h3 =>
      rw [h1] at h2
      simp only [Prod.mk.injEq, and_true] at h2
      obtain ⟨rfl, rfl⟩ := h2
      obtain ⟨rfl, rfl, rfl⟩ := ih h3
      exact ⟨rfl, rfl, rfl⟩
theorem Goes.all (a : List UInt8) : ∃ o r e, Goes a o r e := by
  induction hn : a.length using Nat.strongRecOn generalizing a with
  | _ n ih =>
    obtain ⟨p, m, e, he⟩ : ∃ p m e, ftake a = (p, m, e) := ⟨_, _, _, rfl⟩
    by_cases h0 : e = 0
    · subst h0
      have hp := ftake_pos he
      obtain ⟨o, r, e, hg⟩ := ih (a.drop m).length (by simp; omega) (a.drop m) rfl
      exact ⟨_, _, _, .more he hg⟩
    · by_cases h1 : e = 11
      · subst h1; exact ⟨_, _, _, .stop (by unfold Part; rw [he])⟩
      · exact ⟨_, _, _, .bad (by rw [he]) h0 h1⟩
theorem Goes.part {a : List UInt8} {o r e} (h : Goes a o r e) : Part r := by
  induction h with
  | stop h => exact h
  | bad => exact part_nil
  | more _ _ ih => exact ih
end Go.Proofs.YtaaajmonabhdgaaDoor
