/- What a patch holds is bounded, plain; conditions: none beyond their hypotheses. -/
import Derived.Test.YtmnanbcinfdbaaaPt5
namespace Go.Proofs.Gr
set_option linter.unusedVariables false
theorem be_ge (r : List UInt8) (h0 : r[0]? ≠ some 0) (hr : 0 < r.length) : ∀ k, k < r.length → 256 ^ k ≤ be (r.take (k + 1))
  | 0, _ => by
    have hx : r[0]? = some r[0] := by simp [hr]
    rw [be_take r 0 r[0] hx]
    have : r[0].toNat ≠ 0 := by
      intro e
      apply h0
      rw [hx]
      have : r[0] = 0 := UInt8.toNat.inj (by simpa using e)
      rw [this]
    simp [be]; omega
  | k + 1, hk => by
    have ih := be_ge r h0 hr k (by omega)
    rw [be_take r (k + 1) r[k + 1] (by simp [hk]), Nat.pow_succ]
    exact Nat.le_trans (Nat.mul_le_mul_right 256 ih) (Nat.le_add_right _ _)
theorem enum_len_ok {most n : Nat} {b b' : List UInt8} (h : enum most b 0 = (n, b', 0)) (hm : most < 65536) : b.length ≤ b'.length + 3 ∧ n ≤ most := by
  refine ⟨?_, by have := enum_le most b 0; rw [h] at this; exact this⟩
  cases b with
  | nil => rw [enum_nil] at h; simp at h
  | cons c r =>
    unfold enum at h; rw [if_neg (by simp)] at h; simp only at h
    split at h
    · simp at h
    · split at h
      · simp at h
      · split at h
        · simp at h
        · split at h
          · simp at h
          · rename_i h1 h2 h3 h4
            simp at h
            rw [← h.2]
            simp only [List.length_cons, List.length_drop]
            by_cases hc : c.toNat ≤ 2
            · omega
            · exfalso
              have h5 : ¬ r[0]? = some 0 := fun e => h3 ⟨by omega, e⟩
              have := be_ge r h5 (by omega) 2 (by omega)
              have h6 := be_ge r h5 (by omega) (c.toNat - 1) (by omega)
              rw [show c.toNat - 1 + 1 = c.toNat by omega] at h6
              have : 256 ^ 2 ≤ 256 ^ (c.toNat - 1) := Nat.pow_le_pow_right (by omega) (by omega)
              omega
theorem enum_len_end {most n : Nat} {b b' : List UInt8} (h : enum most b 0 = (n, b', 11)) : b.length ≤ 8 := by
  cases b with
  | nil => simp
  | cons c r =>
    unfold enum at h; rw [if_neg (by simp)] at h; simp only at h
    split at h
    · simp at h
    · split at h
      · simp only [List.length_cons]; omega
      · split at h
        · simp at h
        · split at h <;> simp at h
/-- a number read without a fault, or with the fault 11: the bytes were few -/
theorem numP_len_end {most n : Nat} {b b' : List UInt8} (h : numP most b 0 = (n, b', 11)) : b.length ≤ 8 := by
  obtain ⟨⟨m, b1, f1⟩, hr⟩ : ∃ r, enum most b 0 = r := ⟨_, rfl⟩
  by_cases h0 : m = 0
  · subst h0
    rw [numP_zero hr rfl] at h
    simp only at h
    by_cases hf : f1 = 0
    · subst hf; rw [efail_new 2 b1 (by decide)] at h; simp at h
    · rw [efail_old 2 b1 f1 hf] at h
      simp only [Prod.mk.injEq] at h
      obtain ⟨_, _, rfl⟩ := h
      exact enum_len_end hr
  · rw [numP_pos hr h0] at h
    simp only [Prod.mk.injEq] at h
    obtain ⟨_, _, rfl⟩ := h
    exact enum_len_end hr
theorem numP_fault_keep {most n f f' : Nat} {b b' : List UInt8} (h : numP most b f = (n, b', f')) (hf : f ≠ 0) : f' = f ∧ n = 0 := by
  have hr := enum_fault most b f hf
  rw [numP_zero hr rfl] at h
  simp only at h
  rw [efail_old 2 b f hf] at h
  simp only [Prod.mk.injEq] at h
  exact ⟨h.2.2.symm, h.1.symm⟩
theorem enum_fault_keep {most n f f' : Nat} {b b' : List UInt8} (h : enum most b f = (n, b', f')) (hf : f ≠ 0) : f' = f ∧ n = 0 := by
  rw [enum_fault most b f hf] at h
  simp only [Prod.mk.injEq] at h
  exact ⟨h.2.2.symm, h.1.symm⟩
/-- the end that lacks, behind fewer than 140 bytes -/
theorem nextP_end {b : List UInt8} {s : Stp} {k : Nat} (h : nextP b = (s, k, 11)) : b.length < 140 := by
  obtain ⟨⟨m, b1, f1⟩, hr⟩ : ∃ r, numP 2 b 0 = r := ⟨_, rfl⟩
  have hk := numP_le 2 b 0
  rw [hr] at hk
  simp only at hk
  by_cases hf1 : f1 = 0
  · subst hf1
    obtain ⟨h0, hr'⟩ := numP_ok0 hr
    obtain ⟨hl1, _⟩ := enum_len_ok hr' (by decide)
    rcases (show m = 1 ∨ m = 2 by omega) with rfl | rfl
    · obtain ⟨⟨fr, b2, f2⟩, hr2⟩ : ∃ r, enum 4096 b1 0 = r := ⟨_, rfl⟩
      obtain ⟨⟨ln, b3, f3⟩, hr3⟩ : ∃ r, numP 4096 b2 f2 = r := ⟨_, rfl⟩
      by_cases hf3 : f3 = 0
      · subst hf3; rw [nextP1_ok hr hr2 hr3] at h; simp at h
      · rw [nextP1_bad hr hr2 hr3 hf3] at h
        simp only [Prod.mk.injEq] at h
        obtain ⟨_, _, rfl⟩ := h
        by_cases hf2 : f2 = 0
        · subst hf2
          obtain ⟨hl2, _⟩ := enum_len_ok hr2 (by decide)
          have := numP_len_end hr3
          omega
        · obtain ⟨rfl, _⟩ := numP_fault_keep hr3 hf2
          have := enum_len_end hr2
          omega
    · obtain ⟨⟨d, b2, f2⟩, hr2⟩ : ∃ r, etext 128 b1 0 = r := ⟨_, rfl⟩
      obtain ⟨⟨b4, f4⟩, hx⟩ : ∃ x, (if d.length = 0 then efail 2 b2 f2 else (b2, f2)) = x := ⟨_, rfl⟩
      by_cases hf4 : f4 = 0
      · subst hf4; rw [nextP2_ok hr hr2 hx] at h; simp at h
      · rw [nextP2_bad hr hr2 hx hf4] at h
        simp only [Prod.mk.injEq] at h
        obtain ⟨_, _, rfl⟩ := h
        have hf2 : f2 = 11 := by
          split at hx
          · unfold efail at hx
            split at hx
            · simp at hx
            · simp only [Prod.mk.injEq] at hx; exact hx.2
          · simp only [Prod.mk.injEq] at hx; exact hx.2
        subst hf2
        obtain ⟨⟨v, b5, f5⟩, hr5⟩ : ∃ r, enum 128 b1 0 = r := ⟨_, rfl⟩
        by_cases hf5 : f5 = 0
        · subst hf5
          obtain ⟨hl5, hv⟩ := enum_len_ok hr5 (by decide)
          by_cases hl : b5.length < v
          · omega
          · rw [etext_ok hr5 rfl (by simp only; omega)] at hr2; simp at hr2
        · rw [etext_bad hr5 hf5] at hr2
          simp only [Prod.mk.injEq] at hr2
          obtain ⟨_, _, rfl⟩ := hr2
          have := enum_len_end hr5
          omega
  · have hm : m = 0 := by
      obtain ⟨⟨v, b5, f5⟩, hr5⟩ : ∃ r, enum 2 b 0 = r := ⟨_, rfl⟩
      by_cases hv : v = 0
      · rw [numP_zero hr5 hv] at hr; simp only [Prod.mk.injEq] at hr; exact hr.1.symm
      · rw [numP_pos hr5 hv] at hr
        simp only [Prod.mk.injEq] at hr
        obtain ⟨rfl, rfl, rfl⟩ := hr
        cases b with
        | nil => rw [enum_nil] at hr5; simp only [Prod.mk.injEq] at hr5; exact hr5.1.symm
        | cons c r =>
          unfold enum at hr5; rw [if_neg (by simp)] at hr5; simp only at hr5
          split at hr5
          · simp only [Prod.mk.injEq] at hr5; exact hr5.1.symm
          · split at hr5
            · simp only [Prod.mk.injEq] at hr5; exact hr5.1.symm
            · split at hr5
              · simp only [Prod.mk.injEq] at hr5; exact hr5.1.symm
              · split at hr5
                · simp only [Prod.mk.injEq] at hr5; exact hr5.1.symm
                · simp only [Prod.mk.injEq] at hr5; exact absurd hr5.2.2.symm hf1
    subst hm
    rw [nextP0 hr rfl] at h
    simp only [Prod.mk.injEq] at h
    obtain ⟨_, _, rfl⟩ := h
    have := numP_len_end hr
    omega
/-- what is held behind a feed, and how much came out -/
theorem fd_held (n : Int) (base : List UInt8) (hn : n ≤ 4096) : ∀ (m : Nat) (out : List UInt8) (o : Nat) (rest : List UInt8), rest.length < m → o ≤ 4096 →
    (fd n base m out o rest).2.2.1.length < 140 ∧ (fd n base m out o rest).2.1 ≤ 4096 ∧ ((fd n base m out o rest).2.2.2 ≠ 0 → (fd n base m out o rest).2.2.1 = [])
  | 0, _, _, _, h, _ => absurd h (by omega)
  | m + 1, out, o, rest, h, ho => by
    obtain ⟨⟨s, k, e⟩, hr⟩ : ∃ r, nextP rest = r := ⟨_, rfl⟩
    by_cases h1 : e = 11
    · subst h1; rw [fd_end hr]; exact ⟨nextP_end hr, ho, fun h => absurd rfl h⟩
    · by_cases h0 : e = 0
      · subst h0
        by_cases h2 : okS n s = true
        · by_cases h3 : 4096 - (o : Int) < s.l
          · rw [fd_long hr h2 h3]; exact ⟨by simp, ho, fun _ => rfl⟩
          · rw [fd_go hr h2 h3]
            have hp := nextP_prog hr
            have hs := okS_len h2 hn
            exact fd_held n base hn m _ _ _ (by rw [List.length_drop]; omega) (by omega)
        · have h2 : okS n s = false := by simpa using h2
          rw [fd_wrong hr h2]; exact ⟨by simp, ho, fun _ => rfl⟩
      · rw [fd_bad hr h1 h0]; exact ⟨by simp, ho, fun _ => rfl⟩
theorem feedP_held {n : Int} {base hs b : List UInt8} {o f : Nat} (hn : n ≤ 4096) (hh : hs.length < 140) (ho : o ≤ 4096) (hf : f ≠ 0 → hs = []) {out rest : List UInt8} {o' f' : Nat} (h : feedP n base hs o f b = (out, o', rest, f')) :
    rest.length < 140 ∧ o' ≤ 4096 ∧ (f' ≠ 0 → rest = []) := by
  unfold feedP at h
  split at h
  · simp only [Prod.mk.injEq] at h
    obtain ⟨rfl, rfl, rfl, rfl⟩ := h
    exact ⟨hh, ho, hf⟩
  · have := fd_held n base hn ((hs ++ b).length + 1) [] o (hs ++ b) (by omega) ho
    rw [h] at this
    exact this
end Go.Proofs.Gr
