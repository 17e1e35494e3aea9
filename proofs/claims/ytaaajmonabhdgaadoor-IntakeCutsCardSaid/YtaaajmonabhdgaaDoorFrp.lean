/- Plain laws of frames: what is taken of a frame, and of one in which bits were turned; conditions: none beyond their hypotheses. -/
import Derived.Test.YtaaajmonabhdgaaDoorFr2
namespace Go.Proofs.YtaaajmonabhdgaaDoor
open Go.RowKit Go.Proofs.U
set_option linter.unusedVariables false

theorem fwrap_len (p : List UInt8) (h : p.length ≤ 1400) : (fwrap p).1.length = p.length + 10 := by
  rw [fwrap_ok p h, List.length_append, sealed_len, sealed_len, two_len]; omega
theorem flen_front (p r : List UInt8) (h : p.length ≤ 1400) : flen (sealed (two p.length) ++ r) = (p.length, 0) := by
  unfold flen
  rw [if_neg (by simp [sealed_len, two_len]), List.take_append_of_le_length (by simp [sealed_len, two_len]), List.take_of_length_le (by simp [sealed_len, two_len]), opn_sealed]
  show (if 1400 < num2 (UInt8.ofNat (p.length / 256)) (UInt8.ofNat p.length) then _ else _) = _
  rw [num2_two _ (by omega), if_neg (by omega)]
theorem ftake_front (p r : List UInt8) (n : Nat) (hn : p.length = n) (h : n ≤ 1400) (hr : n + 4 ≤ r.length) :
    ftake (sealed (two n) ++ r) = if (opn (r.take (n + 4))).2 ≠ 0 then ([], 0, (opn (r.take (n + 4))).2) else ((opn (r.take (n + 4))).1, n + 10, 0) := by
  subst hn
  unfold ftake
  rw [flen_front p r h]
  simp only [ne_eq, not_true_eq_false, if_false]
  rw [if_neg (by simp [sealed_len, two_len]; omega), show (sealed (two p.length) ++ r).drop 6 = r from by
    rw [List.drop_append_of_le_length (by simp [sealed_len, two_len]), List.drop_of_length_le (by simp [sealed_len, two_len])]; rfl]
theorem ftake_wrap (p r : List UInt8) (h : p.length ≤ 1400) : ftake ((fwrap p).1 ++ r) = (p, p.length + 10, 0) := by
  rw [fwrap_ok p h]
  show ftake (sealed (two p.length) ++ sealed p ++ r) = _
  rw [List.append_assoc, ftake_front p _ _ rfl h (by simp [sealed_len]),
    List.take_append_of_le_length (by simp [sealed_len]), List.take_of_length_le (by simp [sealed_len]), opn_sealed]
  simp

theorem bytes_ext (l m : List UInt8) (hl : l.length = m.length) (h : ∀ k, k < 8 * l.length → Crc.bitAt l k = Crc.bitAt m k) : l = m := by
  apply List.ext_getElem hl
  intro i h1 h2
  apply UInt8.toNat_inj.1
  apply Nat.eq_of_testBit_eq
  intro j
  by_cases hj : j < 8
  · have := h (8 * i + j) (by omega)
    unfold Crc.bitAt at this
    rw [show (8 * i + j) / 8 = i by omega, show (8 * i + j) % 8 = j by omega] at this
    simpa [List.getD, h1, h2] using this
  · have hb : ∀ c : UInt8, c.toNat.testBit j = false := fun c => Nat.testBit_lt_two_pow (Nat.lt_of_lt_of_le c.toNat_lt (Nat.pow_le_pow_right (by omega) (by omega)))
    rw [hb, hb]
theorem bit_take (l : List UInt8) (n k : Nat) (hk : k < 8 * n) : Crc.bitAt (l.take n) k = Crc.bitAt l k := by
  unfold Crc.bitAt
  simp only [List.getD, List.getElem?_take, show k / 8 < n by omega, if_true]
theorem bit_drop (l : List UInt8) (n k : Nat) : Crc.bitAt (l.drop n) k = Crc.bitAt l (k + 8 * n) := by
  unfold Crc.bitAt
  rw [show (k + 8 * n) / 8 = n + k / 8 by omega, show (k + 8 * n) % 8 = k % 8 by omega]
  simp only [List.getD, List.getElem?_drop]
theorem bit_left (l r : List UInt8) (k : Nat) (hk : k < 8 * l.length) : Crc.bitAt (l ++ r) k = Crc.bitAt l k := by
  unfold Crc.bitAt
  simp only [List.getD, List.getElem?_append_left (show k / 8 < l.length by omega)]
theorem bit_right (l r : List UInt8) (k : Nat) : Crc.bitAt (l ++ r) (k + 8 * l.length) = Crc.bitAt r k := by
  unfold Crc.bitAt
  rw [show (k + 8 * l.length) / 8 = l.length + k / 8 by omega, show (k + 8 * l.length) % 8 = k % 8 by omega]
  simp only [List.getD, List.getElem?_append_right (Nat.le_add_right _ _), Nat.add_sub_cancel_left]

/-- of a frame in which bits were turned within 32 in a row, nothing is taken -/
theorem ftake_burst (p r : List UInt8) (first : Nat) (mask : BitVec 32) (h : p.length ≤ 1400) (hf : first + 32 ≤ 8 * (p.length + 10)) (hm : mask ≠ 0#32) :
    ftake (fl (fwrap p).1 first mask 32 ++ r) = ([], 0, 14) := by
  have hF := fwrap_len p h
  obtain ⟨M, hM⟩ : ∃ M, M = fl (fwrap p).1 first mask 32 := ⟨_, rfl⟩
  have hML : M.length = p.length + 10 := by rw [hM, fl_len, hF]
  have hbit : ∀ k, Crc.bitAt M k = (Crc.bitAt (fwrap p).1 k ^^ (decide (first ≤ k) && decide (k < first + 32) && mask.getLsbD (k - first))) := fun k => by
    rw [hM]; exact fl_bit _ _ _ _ (by rw [hF]; exact hf) k
  rw [← hM]
  obtain ⟨g, hg⟩ : ∃ g : Nat → Bool, g = fun k => decide (first ≤ k) && decide (k < first + 32) && mask.getLsbD (k - first) := ⟨_, rfl⟩
  have hbit' : ∀ k, Crc.bitAt M k = (Crc.bitAt (fwrap p).1 k ^^ g k) := fun k => by rw [hbit k, hg]
  have hwin : ∀ k, g k = true → first ≤ k ∧ k < first + 32 := fun k hk => by
    rw [hg] at hk
    simp only [Bool.and_eq_true, decide_eq_true_eq] at hk
    exact hk.1
  have hone : ∃ k, k < 8 * (p.length + 10) ∧ g k = true := by
    obtain ⟨i, hi, hb⟩ := mask_some mask hm
    refine ⟨first + i, by omega, ?_⟩
    rw [hg]; simp [show first + i < first + 32 by omega, show first + i - first = i by omega, hb]
  clear hbit hg hM
  rw [fwrap_ok p h] at hbit'
  simp only at hbit'
  have hS : (sealed (two p.length)).length = 6 := by simp [sealed_len, two_len]
  have hs6 : M.length ≥ 6 := by omega
  have htake : (M ++ r).take 6 = M.take 6 := List.take_append_of_le_length (by omega)
  by_cases hhead : ∃ k, k < 48 ∧ g k = true
  · have ho : opn (M.take 6) = ([], 14) := by
      refine opn_window (two p.length) (M.take 6) (by simp [hS]; omega) g (fun k hk => ?_) first hwin ?_
      · have hk48 : k < 48 := by simp at hk; omega
        rw [bit_take _ _ _ (by omega), hbit' k, bit_left _ _ _ (by rw [hS]; omega)]
      · obtain ⟨k, hk, hgk⟩ := hhead
        exact ⟨k, by simp; omega, hgk⟩
    have hf14 : flen (M ++ r) = (0, 14) := by unfold flen; rw [if_neg (by simp; omega), htake, ho]
    unfold ftake; rw [hf14]; simp
  · have hg48 : ∀ k, k < 48 → g k = false := fun k hk => by
      cases hb : g k
      · rfl
      · exact absurd ⟨k, hk, hb⟩ hhead
    have hMS : M.take 6 = sealed (two p.length) := by
      apply bytes_ext _ _ (by simp [hS]; omega)
      intro k hk
      have hk48 : k < 48 := by simp at hk; omega
      rw [bit_take _ _ _ (by omega), hbit' k, bit_left _ _ _ (by rw [hS]; omega), hg48 k hk48]; simp
    have hsplit : M ++ r = sealed (two p.length) ++ (M.drop 6 ++ r) := by
      rw [← hMS, ← List.append_assoc, List.take_append_drop]
    rw [hsplit, ftake_front p _ _ rfl h (by simp; omega), List.take_append_of_le_length (by simp; omega), List.take_of_length_le (by simp; omega)]
    have ho : opn (M.drop 6) = ([], 14) := by
      refine opn_window p (M.drop 6) (by simp [sealed_len]; omega) (fun k => g (k + 48)) (fun k hk => ?_) (first - 48) (fun k hk => ?_) ?_
      · rw [bit_drop, hbit' (k + 8 * 6)]
        have := bit_right (sealed (two p.length)) (sealed p) k
        rw [hS] at this
        rw [this]
      · have := hwin _ hk; omega
      · obtain ⟨k, hk, hgk⟩ := hone
        have hk48 : 48 ≤ k := by
          rcases Nat.lt_or_ge k 48 with h1 | h1
          · rw [hg48 k h1] at hgk; cases hgk
          · exact h1
        exact ⟨k - 48, by simp; omega, by show g (k - 48 + 48) = true; rw [show k - 48 + 48 = k by omega]; exact hgk⟩
    rw [ho]; simp
end Go.Proofs.YtaaajmonabhdgaaDoor
