/- Steps read of bytes, plain; conditions: none beyond their hypotheses. -/
import Derived.Test.YthhhiiagppckhaaDoorGr
namespace Go.Proofs.Gr
set_option linter.unusedVariables false
theorem enum_prog {most : Nat} {b b' : List UInt8} {n : Nat} (h : enum most b 0 = (n, b', 0)) : b'.length < b.length := by
  cases b with
  | nil => rw [enum_nil] at h; simp at h
  | cons c r =>
    unfold enum at h; rw [if_neg (by simp)] at h; simp only at h
    split at h
    · simp at h
    · split at h
      · simp at h
      · split at h
        · simp at h
        · split at h
          · simp at h
          · simp at h; rw [← h.2]; simp; omega
theorem enum_ok0 {most : Nat} {b b' : List UInt8} {n f : Nat} (h : enum most b f = (n, b', 0)) : f = 0 := by
  by_cases hf : f = 0
  · exact hf
  · rw [enum_fault _ _ _ hf] at h; simp at h; exact absurd h.2.2 hf
theorem numP_ok0 {most : Nat} {b b' : List UInt8} {n f : Nat} (h : numP most b f = (n, b', 0)) : n ≠ 0 ∧ enum most b f = (n, b', 0) := by
  by_cases h0 : n = 0
  · have := numP_fault (most := most) (b := b) (f := f) (by rw [h]; exact h0)
    rw [h] at this; exact absurd rfl this
  · refine ⟨h0, ?_⟩
    unfold numP at h; simp only at h; split at h
    · injection h with h1; exact absurd h1.symm h0
    · exact h
theorem etext_ok0 {most : Nat} {b d b' : List UInt8} {f : Nat} (h : etext most b f = (d, b', 0)) : ∃ n b1, enum most b f = (n, b1, 0) ∧ n ≤ b1.length ∧ d = b1.take n ∧ b' = b1.drop n := by
  obtain ⟨⟨n, b1, f1⟩, hr⟩ : ∃ r, enum most b f = r := ⟨_, rfl⟩
  by_cases hf : f1 = 0
  · subst hf
    by_cases hl : b1.length < n
    · rw [etext_short hr rfl hl] at h; simp at h
    · rw [etext_ok hr rfl (by simp only; omega)] at h
      simp only [Prod.mk.injEq] at h
      exact ⟨n, b1, hr, by omega, h.1.symm, h.2.1.symm⟩
  · rw [etext_bad hr hf] at h
    simp only [Prod.mk.injEq] at h
    exact absurd h.2.2 hf
/-- what a step was read of -/
theorem nextP_inv {b : List UInt8} {s : Stp} {n : Nat} (h : nextP b = (s, n, 0)) :
    (∃ b1 b2 b3 fr ln, enum 2 b 0 = (1, b1, 0) ∧ enum 4096 b1 0 = (fr, b2, 0) ∧ enum 4096 b2 0 = (ln, b3, 0) ∧ ln ≠ 0 ∧ s = ⟨1, fr, ln, []⟩ ∧ n = b.length - b3.length) ∨
    (∃ b1 b2 d b3, enum 2 b 0 = (2, b1, 0) ∧ (∃ k, enum 128 b1 0 = (k, b2, 0) ∧ k ≤ b2.length ∧ d = b2.take k ∧ b3 = b2.drop k) ∧ d.length ≠ 0 ∧ s = ⟨2, 0, d.length, d⟩ ∧ n = b.length - b3.length) := by
  obtain ⟨⟨k, b1, f1⟩, hr⟩ : ∃ r, numP 2 b 0 = r := ⟨_, rfl⟩
  have hk := numP_le 2 b 0
  rw [hr] at hk
  simp only at hk
  rcases (show k = 0 ∨ k = 1 ∨ k = 2 by omega) with rfl | rfl | rfl
  · rw [nextP0 hr rfl] at h
    have := numP_fault (by rw [hr])
    rw [hr] at this
    simp only [Prod.mk.injEq] at h
    exact absurd h.2.2 this
  · obtain ⟨⟨fr, b2, f2⟩, hr2⟩ : ∃ r, enum 4096 b1 f1 = r := ⟨_, rfl⟩
    obtain ⟨⟨ln, b3, f3⟩, hr3⟩ : ∃ r, numP 4096 b2 f2 = r := ⟨_, rfl⟩
    by_cases hf : f3 = 0
    · subst hf
      rw [nextP1_ok hr hr2 hr3] at h
      simp only [Prod.mk.injEq, and_true] at h
      obtain ⟨h1, h2⟩ := numP_ok0 hr3
      obtain rfl := enum_ok0 h2
      obtain rfl := enum_ok0 hr2
      exact .inl ⟨b1, b2, b3, fr, ln, (numP_ok0 hr).2, hr2, h2, h1, h.1.symm, h.2.symm⟩
    · rw [nextP1_bad hr hr2 hr3 hf] at h
      simp only [Prod.mk.injEq] at h
      exact absurd h.2.2 hf
  · obtain ⟨⟨d, b2, f2⟩, hr2⟩ : ∃ r, etext 128 b1 f1 = r := ⟨_, rfl⟩
    obtain ⟨⟨b4, f4⟩, hx⟩ : ∃ x, (if d.length = 0 then efail 2 b2 f2 else (b2, f2)) = x := ⟨_, rfl⟩
    by_cases hf : f4 = 0
    · subst hf
      rw [nextP2_ok hr hr2 hx] at h
      simp only [Prod.mk.injEq, and_true] at h
      have hd : d.length ≠ 0 := by
        intro h0
        rw [if_pos h0] at hx
        unfold efail at hx
        split at hx
        · simp at hx
        · rename_i h1
          simp only [Prod.mk.injEq] at hx
          exact h1 ⟨hx.2, by decide⟩
      rw [if_neg hd] at hx
      simp only [Prod.mk.injEq] at hx
      obtain ⟨rfl, rfl⟩ := hx
      obtain ⟨k, b5, h5, h6, h7, h8⟩ := etext_ok0 hr2
      obtain rfl := enum_ok0 h5
      exact .inr ⟨b1, b5, d, b2, (numP_ok0 hr).2, ⟨k, h5, h6, h7, h8⟩, hd, h.1.symm, h.2.symm⟩
    · rw [nextP2_bad hr hr2 hx hf] at h
      simp only [Prod.mk.injEq] at h
      exact absurd h.2.2 hf
theorem nextP_prog {b : List UInt8} {s : Stp} {n : Nat} (h : nextP b = (s, n, 0)) : 0 < n ∧ n ≤ b.length := by
  rcases nextP_inv h with ⟨b1, b2, b3, fr, ln, h1, h2, h3, _, _, rfl⟩ | ⟨b1, b2, d, b3, h1, ⟨k, h2, h3, rfl, rfl⟩, _, _, rfl⟩
  · have := enum_prog h1; have := enum_prog h2; have := enum_prog h3; omega
  · have := enum_prog h1; have := enum_prog h2
    rw [List.length_drop]; omega
theorem nextP_len {b : List UInt8} {s : Stp} {n : Nat} (h : nextP b = (s, n, 0)) : s.d.length ≤ 128 ∧ s.l ≤ 4096 ∧ 1 ≤ s.l := by
  rcases nextP_inv h with ⟨b1, b2, b3, fr, ln, h1, h2, h3, h4, rfl, _⟩ | ⟨b1, b2, d, b3, h1, ⟨k, h2, h3, h5, h6⟩, h4, rfl, _⟩
  · have := enum_le 4096 b2 0
    rw [h3] at this
    simp only at this
    exact ⟨by simp, by simp only; omega, by simp only; omega⟩
  · have := enum_le 128 b1 0
    rw [h2] at this
    simp only at this
    have hd : d.length ≤ 128 := by rw [h5, List.length_take]; omega
    exact ⟨hd, by simp only; omega, by simp only; omega⟩
/-- all steps of bytes, behind some -/
def rd : Nat → List Stp → List UInt8 → List Stp × Nat
  | 0, acc, _ => (acc, 0)
  | n + 1, acc, b => if b = [] then (acc, 0) else
    let r := nextP b
    if r.2.2 ≠ 0 then ([], r.2.2) else rd n (acc ++ [r.1]) (b.drop r.2.1)
def readP (b : List UInt8) : List Stp × Nat := rd b.length [] b
theorem rd_nil (n : Nat) (acc : List Stp) : rd n acc [] = (acc, 0) := by cases n <;> simp [rd]
theorem rd_fuel : ∀ (m n : Nat) (acc : List Stp) (b : List UInt8), b.length ≤ m → b.length ≤ n → rd m acc b = rd n acc b
  | 0, n, acc, b, h, _ => by
    have : b = [] := List.eq_nil_of_length_eq_zero (by omega)
    subst this; rw [rd_nil, rd_nil]
  | m + 1, 0, acc, b, _, h => by
    have : b = [] := List.eq_nil_of_length_eq_zero (by omega)
    subst this; rw [rd_nil, rd_nil]
  | m + 1, n + 1, acc, b, hm, hn => by
    unfold rd
    by_cases hb : b = []
    · rw [if_pos hb, if_pos hb]
    · rw [if_neg hb, if_neg hb]
      simp only
      by_cases hf : (nextP b).2.2 = 0
      · rw [if_neg (by simpa using hf), if_neg (by simpa using hf)]
        obtain ⟨⟨s, k, f⟩, hr⟩ : ∃ r, nextP b = r := ⟨_, rfl⟩
        rw [hr] at hf ⊢
        simp only at hf ⊢
        subst hf
        have := nextP_prog hr
        exact rd_fuel m n _ _ (by rw [List.length_drop]; omega) (by rw [List.length_drop]; omega)
      · rw [if_pos (by simpa using hf), if_pos (by simpa using hf)]
theorem rd_step {acc : List Stp} {b : List UInt8} {s : Stp} {k : Nat} (hb : b ≠ []) (h : nextP b = (s, k, 0)) : rd b.length acc b = rd (b.drop k).length (acc ++ [s]) (b.drop k) := by
  have := nextP_prog h
  obtain ⟨m, hm⟩ : ∃ m, b.length = m + 1 := ⟨b.length - 1, by omega⟩
  rw [hm]
  conv => lhs; unfold rd
  rw [if_neg hb, h]
  simp only
  rw [if_neg (by simp)]
  exact rd_fuel _ _ _ _ (by rw [List.length_drop]; omega) (Nat.le_refl _)
theorem rd_bad {acc : List Stp} {b : List UInt8} {s : Stp} {k f : Nat} (hb : b ≠ []) (h : nextP b = (s, k, f)) (hf : f ≠ 0) : rd b.length acc b = ([], f) := by
  have : 0 < b.length := List.length_pos_iff.2 hb
  obtain ⟨m, hm⟩ : ∃ m, b.length = m + 1 := ⟨b.length - 1, by omega⟩
  rw [hm]
  unfold rd
  rw [if_neg hb, h]
  simp only
  rw [if_pos hf]
theorem rd_len : ∀ (n : Nat) (acc : List Stp) (b : List UInt8), (rd n acc b).1.length ≤ acc.length + n
  | 0, acc, b => by simp [rd]
  | n + 1, acc, b => by
    unfold rd; split
    · simp only; omega
    · simp only; split
      · simp
      · have := rd_len n (acc ++ [(nextP b).1]) (b.drop (nextP b).2.1)
        simp at this; omega
end Go.Proofs.Gr
