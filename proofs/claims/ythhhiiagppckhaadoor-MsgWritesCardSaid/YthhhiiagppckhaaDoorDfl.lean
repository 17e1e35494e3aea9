/- Bits that are turned in sealed bytes: the plain law behind CheckBursts and FrameBursts; conditions: none beyond their hypotheses. -/
import Derived.Test.YthhhiiagppckhaaDoorDop
import Derived.Test.YthhhiiagppckhaaDoorBurst
namespace Go.Proofs.YthhhiiagppckhaaDoor
open Go.RowKit Go.Proofs.U
set_option linter.unusedVariables false

/-- a byte with one bit turned -/
def x8 (c : UInt8) (j : Nat) : UInt8 := UInt8.ofNat (c.toNat ^^^ 2 ^ j)
theorem x8_nat (c : UInt8) (j : Nat) (hj : j < 8) : (x8 c j).toNat = c.toNat ^^^ 2 ^ j := by
  unfold x8
  rw [UInt8.toNat_ofNat']
  apply Nat.mod_eq_of_lt
  exact Nat.xor_lt_two_pow c.toNat_lt (Nat.pow_lt_pow_right (by omega) hj)
theorem x8_walk (c : UInt8) (j : Nat) (hj : j < 8) : bits .xor .u8 (c.toNat : Int) ((2 : Int) ^ j % 256) = ((x8 c j).toNat : Int) := by
  have h2 : (2 : Nat) ^ j < 256 := Nat.pow_lt_pow_right (by omega) hj
  have e : ((2 : Int) ^ j) = ((2 ^ j : Nat) : Int) := by push_cast; rfl
  rw [e, show (((2 ^ j : Nat) : Int) % 256) = ((2 ^ j : Nat) : Int) by generalize 2 ^ j = q at h2 ⊢; omega, u8_xor_nat _ _ c.toNat_lt h2, x8_nat c j hj]
def flip (l : List UInt8) (k : Nat) : List UInt8 := l.set (k / 8) (x8 (l.getD (k / 8) 0) (k % 8))
theorem flip_len (l : List UInt8) (k : Nat) : (flip l k).length = l.length := by simp [flip]
theorem flip_bit (l : List UInt8) (p k : Nat) (hp : p / 8 < l.length) : Crc.bitAt (flip l p) k = (Crc.bitAt l k ^^ decide (k = p)) := by
  unfold Crc.bitAt flip
  by_cases h : k / 8 = p / 8
  · have e1 : (l.set (p / 8) (x8 (l.getD (p / 8) 0) (p % 8))).getD (k / 8) 0 = x8 (l.getD (p / 8) 0) (p % 8) := by
      rw [h]; simp [List.getD, hp]
    rw [e1, x8_nat _ _ (by omega), Nat.testBit_xor, h, Nat.testBit_two_pow]
    congr 1
    by_cases h2 : k = p
    · subst h2; simp
    · have : ¬ p % 8 = k % 8 := by omega
      simp [h2, this]
  · have e1 : (l.set (p / 8) (x8 (l.getD (p / 8) 0) (p % 8))).getD (k / 8) 0 = l.getD (k / 8) 0 := by
      simp [List.getD, List.getElem?_set, Ne.symm h]
    have h2 : ¬ k = p := by intro e; exact h (by rw [e])
    rw [e1]; simp [h2]
def fl (l : List UInt8) (first : Nat) (mask : BitVec 32) : Nat → List UInt8
  | 0 => l
  | i + 1 => if mask.getLsbD i then flip (fl l first mask i) (first + i) else fl l first mask i
theorem fl_yes (l : List UInt8) (first : Nat) (mask : BitVec 32) (k : Nat) (y : UInt8) (hm : mask.getLsbD k = true) (hy : (fl l first mask k)[(first + k) / 8]? = some y) :
    fl l first mask (k + 1) = (fl l first mask k).set ((first + k) / 8) (x8 y ((first + k) % 8)) := by
  simp only [fl, hm, if_true, flip]; simp [List.getD, hy]
theorem fl_no (l : List UInt8) (first : Nat) (mask : BitVec 32) (k : Nat) (hm : mask.getLsbD k = false) : fl l first mask (k + 1) = fl l first mask k := by simp [fl, hm]
theorem fl_len (l : List UInt8) (first : Nat) (mask : BitVec 32) (i : Nat) : (fl l first mask i).length = l.length := by
  induction i with
  | zero => rfl
  | succ i ih => simp only [fl]; split <;> simp [flip_len, ih]
theorem fl_bit (l : List UInt8) (first : Nat) (mask : BitVec 32) (i : Nat) (hi : first + i ≤ 8 * l.length) (k : Nat) :
    Crc.bitAt (fl l first mask i) k = (Crc.bitAt l k ^^ (decide (first ≤ k) && decide (k < first + i) && mask.getLsbD (k - first))) := by
  induction i with
  | zero =>
    have : ¬ (first ≤ k ∧ k < first + 0) := by omega
    by_cases h1 : first ≤ k
    · simp [fl, show ¬ k < first by omega]
    · simp [fl, h1]
  | succ i ih =>
    have ih := ih (by omega)
    simp only [fl]
    by_cases hm : mask.getLsbD i = true
    · rw [if_pos hm, flip_bit _ _ _ (by rw [fl_len]; omega), ih]
      by_cases hk : k = first + i
      · subst hk
        simp [show ¬ first + i < first + i by omega, show first + i < first + (i + 1) by omega, show first + i - first = i by omega, hm]
      · have h2 : decide (k < first + (i + 1)) = decide (k < first + i) := by
          by_cases h : k < first + i
          · simp [h, show k < first + (i + 1) by omega]
          · simp [h, show ¬ k < first + (i + 1) by omega]
        rw [h2]; simp [hk]
    · rw [if_neg hm, ih]
      congr 1
      by_cases hk : k = first + i
      · subst hk
        simp only [Bool.not_eq_true] at hm
        simp [show first + i - first = i by omega, hm]
      · have h2 : decide (k < first + (i + 1)) = decide (k < first + i) := by
          by_cases h : k < first + i
          · simp [h, show k < first + (i + 1) by omega]
          · simp [h, show ¬ k < first + (i + 1) by omega]
        rw [h2]
theorem bitAt_tail (m : BitVec 32) (k : Nat) (hk : k < 32) : Crc.bitAt (tail m) k = m.getLsbD k := by
  have key : ∀ a b, b < 8 → (lo8 (bsr m (8 * a))).toNat.testBit b = m.getLsbD (8 * a + b) := by
    intro a b hb
    rw [lo8_nat, bsr_nat, show 256 = 2 ^ 8 by rfl, Nat.testBit_mod_two_pow, Nat.testBit_div_two_pow, BitVec.getLsbD, Nat.add_comm b]
    simp [hb]
  unfold Crc.bitAt tail
  have h0 : lo8 m = lo8 (bsr m (8 * 0)) := by unfold bsr; simp
  rw [h0]
  have hc : k / 8 = 0 ∨ k / 8 = 1 ∨ k / 8 = 2 ∨ k / 8 = 3 := by omega
  rcases hc with h | h | h | h <;> rw [h] <;> simp only [List.getD_cons_zero, List.getD_cons_succ]
  · rw [key 0 (k % 8) (by omega), show 8 * 0 + k % 8 = k by omega]
  · rw [key 1 (k % 8) (by omega), show 8 * 1 + k % 8 = k by omega]
  · rw [key 2 (k % 8) (by omega), show 8 * 2 + k % 8 = k by omega]
  · rw [key 3 (k % 8) (by omega), show 8 * 3 + k % 8 = k by omega]
theorem run_tail (r m : BitVec 32) : Crc.run r (tail m) = Crc.bits 32 (r ^^^ m) := by
  rw [Crc.run_bits, show 8 * (tail m).length = 0 + 32 by rfl, Crc.runF_add _ _ _ _ (by omega)]
  congr 1
  show r ^^^ _ = r ^^^ m
  congr 1
  apply BitVec.eq_of_getLsbD_eq
  intro i hi
  rw [Crc.wsum_bit _ _ _ (by omega), Nat.zero_add, bitAt_tail m i hi]; simp [hi]
/-- sealed bytes all leave one register -/
theorem run_sealed (bs : List UInt8) : Crc.run (BitVec.allOnes 32) (sealed bs) = Crc.bits 32 (BitVec.allOnes 32) := by
  unfold sealed
  rw [Crc.run_append, run_tail]
  congr 1
  unfold Crc.more
  rw [show ~~~ (0#32 : BitVec 32) = BitVec.allOnes 32 by decide]
  generalize Crc.run (BitVec.allOnes 32) bs = r
  rw [← BitVec.xor_allOnes, ← BitVec.xor_assoc, BitVec.xor_self]; simp
theorem sealed_len (bs : List UInt8) : (sealed bs).length = bs.length + 4 := by unfold sealed tail; simp
/-- of sealed bytes whose bits differ in a window of 32, nothing is opened -/
theorem opn_window (bs m : List UInt8) (hl : m.length = (sealed bs).length) (g : Nat → Bool) (hg : ∀ k, k < 8 * m.length → Crc.bitAt m k = (Crc.bitAt (sealed bs) k ^^ g k))
    (s : Nat) (hw : ∀ k, g k = true → s ≤ k ∧ k < s + 32) (h : ∃ k, k < 8 * m.length ∧ g k = true) : opn m = ([], 14) := by
  unfold opn
  rw [if_neg (by rw [hl, sealed_len]; omega), if_neg]
  intro e
  have h1 := run_sealed bs
  have h2 := run_sealed (m.take (m.length - 4))
  rw [← e] at h2
  exact Crc.run_window (BitVec.allOnes 32) (sealed bs) m hl.symm g (by rw [← hl]; exact hg) s hw (by rw [← hl]; exact h) (by rw [h1, h2])
theorem mask_some (mask : BitVec 32) (hm : mask ≠ 0#32) : ∃ i, i < 32 ∧ mask.getLsbD i = true := by
  by_cases h : ∃ i, i < 32 ∧ mask.getLsbD i = true
  · exact h
  · exact absurd (BitVec.eq_of_getLsbD_eq fun i hi => by
      cases hb : mask.getLsbD i
      · simp
      · exact absurd ⟨i, hi, hb⟩ h) hm
theorem opn_burst (bs : List UInt8) (first : Nat) (mask : BitVec 32) (hf : first + 32 ≤ 8 * (bs.length + 4)) (hm : mask ≠ 0#32) : opn (fl (sealed bs) first mask 32) = ([], 14) := by
  refine opn_window bs _ (fl_len _ _ _ _) (fun k => decide (first ≤ k) && decide (k < first + 32) && mask.getLsbD (k - first)) (fun k _ => fl_bit _ _ _ _ (by rw [sealed_len]; exact hf) k) first ?_ ?_
  · intro k hk
    simp only [Bool.and_eq_true, decide_eq_true_eq] at hk
    exact hk.1
  · obtain ⟨i, hi, hb⟩ := mask_some mask hm
    refine ⟨first + i, by rw [fl_len, sealed_len]; omega, ?_⟩
    simp [show first + i < first + 32 by omega, show first + i - first = i by omega, hb]
end Go.Proofs.YthhhiiagppckhaaDoor
