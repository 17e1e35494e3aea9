/- Numbers as bytes, plain: digits, widths; what is written is read; conditions: none beyond their hypotheses. -/
import Derived.Test.YthhhiiagppckhaaDoorGrd
namespace Go.Proofs.Gr
set_option linter.unusedVariables false
def digsF : Nat → Nat → List UInt8
  | 0, _ => []
  | k + 1, n => if n = 0 then [] else digsF k (n / 256) ++ [UInt8.ofNat n]
def digs (n : Nat) : List UInt8 := digsF 8 n
def numB (n : Nat) : List UInt8 := UInt8.ofNat (digs n).length :: digs n
theorem digsF_zero : ∀ k, digsF k 0 = []
  | 0 => rfl
  | k + 1 => by simp [digsF]
theorem digsF_len : ∀ (k n : Nat), (digsF k n).length ≤ k
  | 0, n => by simp [digsF]
  | k + 1, n => by
    unfold digsF; split
    · simp
    · have := digsF_len k (n / 256); simp; omega
theorem digsF_lt : ∀ (k n j : Nat), j ≤ k → n < 256 ^ k → ((digsF k n).length ≤ j ↔ n < 256 ^ j)
  | 0, n, j, hj, hn => by
    obtain rfl : j = 0 := by omega
    simp [digsF]; simpa using hn
  | k + 1, n, j, hj, hn => by
    unfold digsF
    by_cases h0 : n = 0
    · rw [if_pos h0]; subst h0; simp; exact Nat.pos_of_ne_zero (by simp)
    · rw [if_neg h0]
      cases j with
      | zero => simp; omega
      | succ j =>
        have ih := digsF_lt k (n / 256) j (by omega) (by rw [Nat.pow_succ] at hn; omega)
        rw [List.length_append, List.length_singleton, Nat.pow_succ]
        constructor
        · intro h; have := ih.1 (by omega); omega
        · intro h; have := ih.2 (by omega); omega
theorem digs_lt (n j : Nat) (hj : j ≤ 8) (hn : n < 18446744073709551616) : (digs n).length ≤ j ↔ n < 256 ^ j := digsF_lt 8 n j hj hn
theorem digs_len8 (n : Nat) : (digs n).length ≤ 8 := digsF_len 8 n
theorem numB_len (n : Nat) : (numB n).length ≤ 9 ∧ 1 ≤ (numB n).length := by have := digs_len8 n; unfold numB; simp; omega
/-- bits of a number -/
def bl (n : Nat) : Nat := if n = 0 then 0 else Nat.log2 n + 1
theorem bl_le (n k : Nat) : bl n ≤ k ↔ n < 2 ^ k := by
  unfold bl; split
  · rename_i h; subst h; simp; exact Nat.pos_of_ne_zero (by simp)
  · rename_i h; rw [Nat.succ_le_iff, Nat.log2_lt h]
theorem width_eq (n : Nat) (hn : n < 18446744073709551616) : (digs n).length = (bl n + 7) / 8 := by
  have h8 := digs_len8 n
  have key : ∀ j, j ≤ 8 → ((digs n).length ≤ j ↔ bl n ≤ 8 * j) := fun j hj => by
    rw [digs_lt n j hj hn, bl_le, Nat.pow_mul]
  have h1 := (key (digs n).length h8).1 (Nat.le_refl _)
  by_cases h0 : (digs n).length = 0
  · rw [h0] at h1 ⊢; omega
  · have h2 := (key ((digs n).length - 1) (by omega))
    have h3 : ¬ bl n ≤ 8 * ((digs n).length - 1) := fun h => by have := h2.2 h; omega
    omega
theorem bl_shift (n k : Nat) (h : 2 ^ k ≤ n) : bl n = k + bl (n / 2 ^ k) := by
  have h1 : ∀ j, bl n ≤ k + j ↔ bl (n / 2 ^ k) ≤ j := fun j => by
    rw [bl_le, bl_le, Nat.pow_add, Nat.div_lt_iff_lt_mul (Nat.pow_pos (by decide)), Nat.mul_comm]
  have h2 : ¬ bl n ≤ k := by rw [bl_le]; omega
  have h3 := (h1 (bl n - k)).1 (by omega)
  have h4 := (h1 (bl (n / 2 ^ k))).2 (Nat.le_refl _)
  omega
theorem digsF_at : ∀ (k n i : Nat), i < (digsF k n).length → (digsF k n)[i]? = some (UInt8.ofNat (n / 256 ^ ((digsF k n).length - 1 - i)))
  | 0, n, i, h => by simp [digsF] at h
  | k + 1, n, i, h => by
    unfold digsF at h ⊢
    by_cases h0 : n = 0
    · rw [if_pos h0] at h; simp at h
    · rw [if_neg h0] at h ⊢
      rw [List.length_append, List.length_singleton] at h ⊢
      by_cases hi : i < (digsF k (n / 256)).length
      · rw [List.getElem?_append_left hi, digsF_at k _ i hi, Nat.div_div_eq_div_mul, Nat.mul_comm, ← Nat.pow_succ]
        congr 4; omega
      · obtain rfl : i = (digsF k (n / 256)).length := by omega
        rw [List.getElem?_append_right (Nat.le_refl _), Nat.sub_self]
        simp
theorem digs_at (n i : Nat) (h : i < (digs n).length) : (digs n)[i]? = some (UInt8.ofNat (n / 256 ^ ((digs n).length - 1 - i))) := digsF_at 8 n i h
theorem be_digsF : ∀ (k n : Nat), n < 256 ^ k → be (digsF k n) = n
  | 0, n, h => by simp at h; subst h; rfl
  | k + 1, n, h => by
    unfold digsF; split
    · rename_i h0; rw [h0]; rfl
    · rw [be_snoc, be_digsF k (n / 256) (by rw [Nat.pow_succ] at h; omega), UInt8.toNat_ofNat']; omega
theorem be_digs (n : Nat) (h : n < 18446744073709551616) : be (digs n) = n := be_digsF 8 n h
theorem digsF_head : ∀ (k n : Nat), n < 256 ^ k → (digsF k n)[0]? ≠ some 0
  | 0, n, h => by simp [digsF]
  | k + 1, n, h => by
    unfold digsF; split
    · simp
    · rename_i h0
      by_cases hd : digsF k (n / 256) = []
      · rw [hd]; simp
        have hb := be_digsF k (n / 256) (by rw [Nat.pow_succ] at h; omega)
        rw [hd] at hb
        have : n / 256 = 0 := hb.symm
        intro hc
        have := congrArg UInt8.toNat hc
        rw [UInt8.toNat_ofNat'] at this
        simp at this
        omega
      · rw [List.getElem?_append_left (List.length_pos_iff.2 hd)]
        exact digsF_head k (n / 256) (by rw [Nat.pow_succ] at h; omega)
theorem digs_head (n : Nat) (h : n < 18446744073709551616) : (digs n)[0]? ≠ some 0 := digsF_head 8 n h
/-- digits without a zero ahead are the number's -/
theorem digsF_be : ∀ (k : Nat) (l : List UInt8), l.length ≤ k → l[0]? ≠ some 0 → digsF k (be l) = l
  | 0, l, h, _ => by
    obtain rfl := List.eq_nil_of_length_eq_zero (Nat.le_zero.1 h); rfl
  | k + 1, l, h, h0 => by
    rcases List.eq_nil_or_concat l with rfl | ⟨m, c, rfl⟩
    · rfl
    · rw [List.concat_eq_append] at h h0 ⊢
      rw [be_snoc]
      have hc := c.toNat_lt
      have hne : be m * 256 + c.toNat ≠ 0 := by
        intro hz
        have hm0 : be m = 0 := by omega
        have hc0 : c.toNat = 0 := by omega
        cases m with
        | nil =>
          apply h0; simp
          exact UInt8.toNat_inj.1 (by simpa using hc0)
        | cons x m =>
          have hx : x ≠ 0 := by simpa using h0
          have : ∀ (m : List UInt8) (a : Nat), 0 < a → 0 < m.foldl (fun n d => n * 256 + d.toNat) a := by
            intro m
            induction m with
            | nil => intro a h; exact h
            | cons y m ih => intro a h; exact ih _ (by show 0 < a * 256 + y.toNat; omega)
          have h3 : 0 < be (x :: m) := this m _ (by
            have : x.toNat ≠ 0 := fun h => hx (UInt8.toNat_inj.1 (by simpa using h))
            show 0 < 0 * 256 + x.toNat
            omega)
          omega
      unfold digsF
      rw [if_neg hne, show (be m * 256 + c.toNat) / 256 = be m by omega]
      have hl : m.length ≤ k := by simp at h; omega
      have hm : m[0]? ≠ some 0 := by
        intro hz
        apply h0
        rw [List.getElem?_append_left (by
          rcases Nat.eq_zero_or_pos m.length with h1 | h1
          · rw [List.eq_nil_of_length_eq_zero h1] at hz; simp at hz
          · exact h1)]
        exact hz
      rw [digsF_be k m hl hm]
      congr 1
      simp only [List.cons.injEq, and_true]
      apply UInt8.toNat_inj.1
      rw [UInt8.toNat_ofNat']; omega
/-- a number that was read: its bytes -/
theorem enum_bytes {most n : Nat} {b b' : List UInt8} (h : enum most b 0 = (n, b', 0)) : b = numB n ++ b' ∧ n ≤ most := by
  have hle := enum_le most b 0
  rw [h] at hle
  refine ⟨?_, hle⟩
  cases b with
  | nil => rw [enum_nil] at h; simp at h
  | cons c r =>
    by_cases h1 : 8 < c.toNat
    · rw [enum_wide _ _ _ h1] at h; simp at h
    · by_cases h2 : r.length < c.toNat
      · rw [enum_short _ _ _ (by omega) h2] at h; simp at h
      · by_cases h3 : 0 < c.toNat ∧ r[0]? = some 0
        · rw [enum_zero _ _ _ (by omega) (by omega) h3.1 h3.2] at h; simp at h
        · by_cases h4 : most < be (r.take c.toNat)
          · rw [enum_much _ _ _ (by omega) (by omega) h3 h4] at h; simp at h
          · rw [enum_ok _ _ _ (by omega) (by omega) h3 (by omega)] at h
            simp only [Prod.mk.injEq, and_true] at h
            obtain ⟨rfl, rfl⟩ := h
            have hl : (r.take c.toNat).length = c.toNat := by rw [List.length_take]; omega
            have hd : digs (be (r.take c.toNat)) = r.take c.toNat := by
              refine digsF_be 8 _ (by omega) ?_
              intro hz
              by_cases h5 : 0 < c.toNat
              · rw [List.getElem?_take, if_pos h5] at hz
                exact h3 ⟨h5, hz⟩
              · rw [show c.toNat = 0 by omega] at hz; simp at hz
            unfold numB
            rw [hd, hl]
            simp
/-- a number that was written is read -/
theorem enum_numB {most n : Nat} (r : List UInt8) (hn : n < 18446744073709551616) (hm : n ≤ most) : enum most (numB n ++ r) 0 = (n, r, 0) := by
  have h8 := digs_len8 n
  have hc : (UInt8.ofNat (digs n).length).toNat = (digs n).length := by rw [UInt8.toNat_ofNat']; omega
  unfold numB
  rw [List.cons_append]
  have ht : (digs n ++ r).take (UInt8.ofNat (digs n).length).toNat = digs n := by rw [hc]; simp
  have hz : ¬ (0 < (UInt8.ofNat (digs n).length).toNat ∧ (digs n ++ r)[0]? = some 0) := by
    rintro ⟨h1, h2⟩
    rw [hc] at h1
    rw [List.getElem?_append_left h1] at h2
    exact digs_head n hn h2
  rw [enum_ok most _ _ (by omega) (by rw [hc]; simp) hz (by rw [ht, be_digs n hn]; exact hm), ht, be_digs n hn, hc]
  simp
/-- the bytes of a step, of steps -/
def natI (x : Int) : Nat := x.toNat
def wrS (s : Stp) : List UInt8 := if s.k = 1 then numB 1 ++ numB (natI s.f) ++ numB (natI s.l) else numB 2 ++ (numB s.d.length ++ s.d)
def wrP (l : List Stp) : List UInt8 := l.flatMap wrS
theorem wrP_snoc (l : List Stp) (s : Stp) : wrP (l ++ [s]) = wrP l ++ wrS s := by simp [wrP]
theorem wrP_take (l : List Stp) (k : Nat) (s : Stp) (h : l[k]? = some s) : wrP (l.take (k + 1)) = wrP (l.take k) ++ wrS s := by
  rw [List.take_add_one, h]; exact wrP_snoc _ _
theorem nextP_bytes {b : List UInt8} {s : Stp} {n : Nat} (h : nextP b = (s, n, 0)) : b = wrS s ++ b.drop n ∧ n = (wrS s).length := by
  rcases nextP_inv h with ⟨b1, b2, b3, fr, ln, h1, h2, h3, h4, rfl, rfl⟩ | ⟨b1, b2, d, b3, h1, ⟨k, h2, h3, h5, h6⟩, h4, rfl, rfl⟩
  · obtain ⟨e1, _⟩ := enum_bytes h1
    obtain ⟨e2, _⟩ := enum_bytes h2
    obtain ⟨e3, _⟩ := enum_bytes h3
    have hb : b = wrS ⟨1, fr, ln, []⟩ ++ b3 := by
      unfold wrS natI; simp
      rw [e1, e2, e3]
    have hl : b.length - b3.length = (wrS ⟨1, fr, ln, []⟩).length := by
      have := congrArg List.length hb
      rw [List.length_append] at this; omega
    refine ⟨?_, hl⟩
    rw [hl]
    conv => lhs; rw [hb]
    congr 1
    conv => rhs; rw [hb]
    simp
  · obtain ⟨e1, _⟩ := enum_bytes h1
    obtain ⟨e2, _⟩ := enum_bytes h2
    have hdl : d.length = k := by rw [h5, List.length_take]; omega
    have hb : b = wrS ⟨2, 0, d.length, d⟩ ++ b3 := by
      unfold wrS; simp
      rw [e1, e2, hdl, h5, h6]
      simp
    have hl : b.length - b3.length = (wrS ⟨2, 0, d.length, d⟩).length := by
      have := congrArg List.length hb
      rw [List.length_append] at this; omega
    refine ⟨?_, hl⟩
    rw [hl]
    conv => lhs; rw [hb]
    congr 1
    conv => rhs; rw [hb]
    simp
theorem rd_bytes : ∀ (n : Nat) (acc : List Stp) (b : List UInt8), b.length ≤ n → (rd n acc b).2 = 0 → wrP (rd n acc b).1 = wrP acc ++ b
  | 0, acc, b, h, _ => by
    obtain rfl := List.eq_nil_of_length_eq_zero (Nat.le_zero.1 h); simp [rd]
  | n + 1, acc, b, h, h0 => by
    by_cases hb : b = []
    · subst hb; rw [rd_nil]; simp
    · obtain ⟨⟨s, k, f⟩, hr⟩ : ∃ r, nextP b = r := ⟨_, rfl⟩
      by_cases hf : f = 0
      · subst hf
        have hp := nextP_prog hr
        have he : rd (n + 1) acc b = rd n (acc ++ [s]) (b.drop k) := by
          conv => lhs; unfold rd
          rw [if_neg hb, hr]; simp only; rw [if_neg (by simp)]
        rw [he] at h0 ⊢
        rw [rd_bytes n _ _ (by rw [List.length_drop]; omega) h0, wrP_snoc, List.append_assoc, ← (nextP_bytes hr).1]
      · have he : rd (n + 1) acc b = ([], f) := by
          unfold rd
          rw [if_neg hb, hr]; simp only; rw [if_pos hf]
        rw [he] at h0
        exact absurd h0 hf
theorem readP_bytes {b : List UInt8} (h : (readP b).2 = 0) : wrP (readP b).1 = b := by
  have := rd_bytes b.length [] b (Nat.le_refl _) h
  unfold readP
  simpa [wrP] using this
end Go.Proofs.Gr
