/- Plain text, no program in sight: bits turned within 32 in a row change the register that a row of bytes leaves; conditions: none. -/
import Derived.Test.YthhhiiagppckhaaDoorCross
namespace Go.Proofs.Crc

/-- the register behind n bits -/
def runF (r : W) (f : Nat → Bool) : Nat → W
  | 0 => r
  | n + 1 => bit (runF r f n ^^^ (if f n then 1#32 else 0#32))
theorem runF_xor (r r' : W) (f g : Nat → Bool) (n : Nat) : runF (r ^^^ r') (fun k => f k ^^ g k) n = runF r f n ^^^ runF r' g n := by
  induction n with
  | zero => rfl
  | succ n ih =>
    simp only [runF, ih, ← bit_xor]
    congr 1
    rcases Bool.eq_false_or_eq_true (f n) with h1 | h1 <;> rcases Bool.eq_false_or_eq_true (g n) with h2 | h2 <;> simp only [h1, h2, Bool.xor_self, Bool.xor_true, Bool.xor_false, Bool.not_false, Bool.not_true, if_true, if_false, Bool.false_eq_true]
    · rw [show runF r f n ^^^ 1#32 ^^^ (runF r' g n ^^^ 1#32) = (runF r f n ^^^ runF r' g n) ^^^ (1#32 ^^^ 1#32) by ac_rfl, BitVec.xor_self]
    · ac_rfl
    · ac_rfl
    · simp
theorem runF_congr (r : W) (f g : Nat → Bool) (n : Nat) (h : ∀ k, k < n → f k = g k) : runF r f n = runF r g n := by
  induction n with
  | zero => rfl
  | succ n ih => simp only [runF]; rw [ih (fun k hk => h k (by omega)), h n (by omega)]

/-- the next j bits from n on, as a word, the first one lowest -/
def wsum (f : Nat → Bool) (n : Nat) : Nat → W
  | 0 => 0#32
  | j + 1 => wsum f n j ^^^ (if f (n + j) then 1#32 <<< j else 0#32)
theorem bits_one : ∀ j, j < 32 → bits j (1#32 <<< j) = 1#32 := by decide +kernel
theorem runF_add (r : W) (f : Nat → Bool) (n j : Nat) (hj : j ≤ 32) : runF r f (n + j) = bits j (runF r f n ^^^ wsum f n j) := by
  induction j with
  | zero => simp [bits, wsum]
  | succ j ih =>
    show bit (runF r f (n + j) ^^^ (if f (n + j) then 1#32 else 0#32)) = _
    rw [ih (by omega), bits_succ, wsum]
    congr 1
    by_cases h : f (n + j) = true
    · simp only [h, if_true]
      rw [← BitVec.xor_assoc, bits_xor _ _ (1#32 <<< j), bits_one j (by omega)]
    · simp [h]
theorem wsum_bit (f : Nat → Bool) (n j : Nat) (hj : j ≤ 32) (i : Nat) : (wsum f n j).getLsbD i = (decide (i < j) && f (n + i)) := by
  induction j with
  | zero => simp [wsum]
  | succ j ih =>
    simp only [wsum, BitVec.getLsbD_xor, ih (by omega)]
    by_cases e : i = j
    · subst e
      have h1 : (1#32 <<< i).getLsbD i = true := by simp [BitVec.getLsbD_shiftLeft, show i < 32 by omega]
      split <;> simp_all
    · have h1 : (1#32 <<< j).getLsbD i = false := by
        simp only [BitVec.getLsbD_shiftLeft, BitVec.getLsbD_one]
        by_cases hlt : i < j
        · simp [hlt]
        · simp [show i - j ≠ 0 by omega]
      have h2 : decide (i < j + 1) = decide (i < j) := by
        by_cases h : i < j
        · simp [h, show i < j + 1 by omega]
        · simp [h, show ¬ i < j + 1 by omega]
      rw [h2]
      split <;> simp [h1]

theorem bit_inj_zero {r : W} (h : bit r = 0#32) : r = 0#32 := by
  rw [bit_eq] at h
  have h31 := congrArg (fun x : W => x.getLsbD 31) h
  simp only [BitVec.getLsbD_xor, BitVec.getLsbD_ushiftRight, BitVec.getLsbD_zero] at h31
  rw [BitVec.getLsbD_of_ge r (1 + 31) (by omega)] at h31
  have h0 : r.getLsbD 0 = false := by
    cases hb : r.getLsbD 0
    · rfl
    · rw [hb] at h31; simp [P] at h31
  rw [h0] at h
  simp only [Bool.false_eq_true, if_false, BitVec.xor_zero] at h
  apply BitVec.eq_of_getLsbD_eq
  intro i hi
  cases i with
  | zero => rw [h0]; simp
  | succ i =>
    have := congrArg (fun x : W => x.getLsbD i) h
    simp only [BitVec.getLsbD_ushiftRight, BitVec.getLsbD_zero] at this
    rw [Nat.add_comm i 1, this]; simp
theorem bits_inj_zero {r : W} {k : Nat} (h : bits k r = 0#32) : r = 0#32 := by
  induction k generalizing r with
  | zero => exact h
  | succ k ih => exact bit_inj_zero (ih h)
theorem runF_zero (f : Nat → Bool) (n : Nat) (h : ∀ k, k < n → f k = false) : runF 0#32 f n = 0#32 := by
  induction n with
  | zero => rfl
  | succ n ih => simp only [runF]; rw [ih (fun k hk => h k (by omega)), h n (by omega)]; simp [bit_zero]
theorem runF_rest (r : W) (f : Nat → Bool) (n j : Nat) (h : ∀ k, n ≤ k → k < n + j → f k = false) : runF r f (n + j) = bits j (runF r f n) := by
  induction j with
  | zero => rfl
  | succ j ih =>
    show bit (runF r f (n + j) ^^^ (if f (n + j) then 1#32 else 0#32)) = _
    rw [ih (fun k h1 h2 => h k h1 (by omega)), h (n + j) (by omega) (by omega), bits_succ]; simp

/-- bits turned, not further apart than 32 in a row, are told by the register -/
theorem burst_ne (g : Nat → Bool) (p n : Nat) (hp : p < n) (h1 : g p = true) (h0 : ∀ k, k < p → g k = false) (h2 : ∀ k, p + 32 ≤ k → k < n → g k = false) : runF 0#32 g n ≠ 0#32 := by
  intro e
  have key : ∀ j, 1 ≤ j → j ≤ 32 → runF 0#32 g (p + j) ≠ 0#32 := by
    intro j hj hj2 e
    rw [runF_add _ _ _ _ hj2, runF_zero g p h0] at e
    have e2 := bits_inj_zero e
    have e3 := congrArg (fun x : W => x.getLsbD 0) e2
    simp only [BitVec.getLsbD_xor, BitVec.getLsbD_zero, wsum_bit g p j hj2 0, Nat.add_zero, h1] at e3
    simp at e3; omega
  by_cases hn : n ≤ p + 32
  · exact key (n - p) (by omega) (by omega) (by rw [show p + (n - p) = n by omega]; exact e)
  · rw [show n = p + 32 + (n - (p + 32)) by omega, runF_rest _ _ _ _ (fun k h3 h4 => h2 k h3 (by omega))] at e
    exact key 32 (by omega) (by omega) (bits_inj_zero e)

/-! bytes as bits -/
def bitAt (l : List UInt8) (k : Nat) : Bool := (l.getD (k / 8) 0).toNat.testBit (k % 8)
theorem zext_bit (c : UInt8) (i : Nat) : (c.toBitVec.setWidth 32 : W).getLsbD i = (decide (i < 8) && c.toNat.testBit i) := by
  rw [BitVec.getLsbD_setWidth]
  show (decide (i < 32) && c.toNat.testBit i) = _
  by_cases h : i < 8
  · simp [h, show i < 32 by omega]
  · have : c.toNat.testBit i = false := Nat.testBit_lt_two_pow (Nat.lt_of_lt_of_le c.toNat_lt (Nat.pow_le_pow_right (by omega) (by omega)))
    simp [this]
theorem wsum_byte (l : List UInt8) (i : Nat) : wsum (bitAt l) (8 * i) 8 = (l.getD i 0).toBitVec.setWidth 32 := by
  apply BitVec.eq_of_getLsbD_eq
  intro k hk
  rw [wsum_bit _ _ _ (by omega), zext_bit]
  unfold bitAt
  by_cases h : k < 8
  · rw [show (8 * i + k) / 8 = i by omega, show (8 * i + k) % 8 = k by omega]
  · simp [h]
theorem run_runF (r : W) (l : List UInt8) (i : Nat) (hi : i ≤ l.length) : runF r (bitAt l) (8 * i) = run r (l.take i) := by
  induction i with
  | zero => rfl
  | succ i ih =>
    rw [show 8 * (i + 1) = 8 * i + 8 by omega, runF_add _ _ _ _ (by omega), ih (by omega), wsum_byte]
    unfold run
    rw [List.take_succ_eq_append_getElem (by omega), List.foldl_append]
    simp only [List.foldl_cons, List.foldl_nil, byte]
    rw [show l.getD i 0 = l[i] by simp [List.getD, show i < l.length by omega]]
theorem run_bits (r : W) (l : List UInt8) : run r l = runF r (bitAt l) (8 * l.length) := by
  rw [run_runF r l l.length (Nat.le_refl _), List.take_length]

/-- two rows of one length whose bits differ in a window of 32 at some place do not leave one register -/
theorem run_burst (r : W) (l m : List UInt8) (hl : l.length = m.length) (g : Nat → Bool) (hg : ∀ k, k < 8 * l.length → bitAt m k = (bitAt l k ^^ g k))
    (p : Nat) (hp : p < 8 * l.length) (h1 : g p = true) (h0 : ∀ k, k < p → g k = false) (h2 : ∀ k, p + 32 ≤ k → k < 8 * l.length → g k = false) : run r l ≠ run r m := by
  rw [run_bits, run_bits, ← hl, runF_congr r (bitAt m) (fun k => bitAt l k ^^ g k) _ hg]
  have h := runF_xor r 0#32 (bitAt l) g (8 * l.length)
  simp only [BitVec.xor_zero] at h
  rw [h]
  intro e
  have e2 : runF 0#32 g (8 * l.length) = 0#32 := by
    have := congrArg (fun x => runF r (bitAt l) (8 * l.length) ^^^ x) e
    simp only [BitVec.xor_self, ← BitVec.xor_assoc, BitVec.zero_xor] at this
    exact this.symm
  exact burst_ne g p _ hp h1 h0 h2 e2

/-- the least place of a window at which something is true -/
theorem first_true (g : Nat → Bool) (n : Nat) (h : ∃ k, k < n ∧ g k = true) : ∃ p, p < n ∧ g p = true ∧ ∀ k, k < p → g k = false := by
  induction n with
  | zero => obtain ⟨k, hk, _⟩ := h; omega
  | succ n ih =>
    by_cases h2 : ∃ k, k < n ∧ g k = true
    · obtain ⟨p, hp, h3, h4⟩ := ih h2
      exact ⟨p, by omega, h3, h4⟩
    · obtain ⟨k, hk, hg⟩ := h
      have hkn : k = n := by
        by_cases e : k < n
        · exact absurd ⟨k, e, hg⟩ h2
        · omega
      subst hkn
      exact ⟨k, by omega, hg, fun j hj => by
        cases hb : g j
        · rfl
        · exact absurd ⟨j, hj, hb⟩ h2⟩
theorem run_window (r : W) (l m : List UInt8) (hl : l.length = m.length) (g : Nat → Bool) (hg : ∀ k, k < 8 * l.length → bitAt m k = (bitAt l k ^^ g k))
    (s : Nat) (hw : ∀ k, g k = true → s ≤ k ∧ k < s + 32) (h : ∃ k, k < 8 * l.length ∧ g k = true) : run r l ≠ run r m := by
  obtain ⟨p, hp, h1, h0⟩ := first_true g _ h
  have hs := hw p h1
  refine run_burst r l m hl g hg p hp h1 h0 (fun k hk _ => ?_)
  cases hb : g k
  · rfl
  · have := hw k hb; omega
end Go.Proofs.Crc
