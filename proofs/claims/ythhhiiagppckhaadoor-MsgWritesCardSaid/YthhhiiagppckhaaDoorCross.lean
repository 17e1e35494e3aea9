/- Plain text, no program in sight: registers multiplied, and the sum of two parts told of theirs; conditions: none. -/
import Derived.Test.YthhhiiagppckhaaDoorCrc
namespace Go.Proofs.Crc

def prodTo (a b : W) : Nat → W
  | 0 => 0#32
  | k + 1 => prodTo a b k ^^^ (if a.getLsbD (31 - k) then bits k b else 0#32)
def prod (a b : W) : W := prodTo a b 32

theorem shl_zero {a : W} {k : Nat} (h : a <<< k = 0#32) {i : Nat} (hi : i + k < 32) : a.getLsbD i = false := by
  have h2 := congrArg (fun x : W => x.getLsbD (i + k)) h
  simp only [BitVec.getLsbD_shiftLeft, BitVec.getLsbD_zero] at h2
  rw [show i + k - k = i by omega] at h2
  simpa [hi] using h2
theorem prodTo_done {a b : W} {k : Nat} (h : a <<< k = 0#32) : ∀ j, k ≤ j → j ≤ 32 → prodTo a b j = prodTo a b k := by
  intro j hj hj2
  induction j with
  | zero => rw [show k = 0 by omega]
  | succ j ih =>
    by_cases e : k = j + 1
    · rw [e]
    · have hb := shl_zero h (i := 31 - j) (by omega)
      simp only [prodTo, hb, ih (by omega) (by omega)]
      simp
theorem prodTo_xor (a b c : W) (k : Nat) : prodTo a (b ^^^ c) k = prodTo a b k ^^^ prodTo a c k := by
  induction k with
  | zero => simp [prodTo]
  | succ k ih =>
    simp only [prodTo, ih, bits_xor]
    split
    · ac_rfl
    · simp
theorem prod_xor (a b c : W) : prod a (b ^^^ c) = prod a b ^^^ prod a c := prodTo_xor a b c 32
theorem prodTo_bit (a b : W) (k : Nat) : prodTo a (bit b) k = bit (prodTo a b k) := by
  induction k with
  | zero => exact bit_zero.symm
  | succ k ih =>
    simp only [prodTo, ih, bit_xor]
    split
    · rw [show bits k (bit b) = bit (bits k b) by rw [← bits_succ]; rfl]
    · rw [bit_zero]
theorem prod_bits (a b : W) (k : Nat) : prod a (bits k b) = bits k (prod a b) := by
  induction k generalizing b with
  | zero => rfl
  | succ k ih =>
    simp only [bits]
    rw [ih, show prod a (bit b) = bit (prod a b) from prodTo_bit a b 32]
theorem prod_zero (a : W) : prod a 0#32 = 0#32 := by
  have h := prod_xor a 0#32 0#32
  simp only [BitVec.xor_self] at h; exact h
theorem prod_prodTo (a b c : W) (k : Nat) : prod a (prodTo b c k) = prodTo b (prod a c) k := by
  induction k with
  | zero => exact prod_zero a
  | succ k ih =>
    simp only [prodTo, prod_xor, ih]
    split
    · rw [prod_bits]
    · rw [prod_zero]
theorem prod_comm (a b c : W) : prod a (prod b c) = prod b (prod a c) := prod_prodTo a b c 32

def e0 : W := 0x80000000#32
theorem bits_e0 : ∀ k, k < 32 → bits k e0 = 1#32 <<< (31 - k) := by decide +kernel
theorem prodTo_e0 (a : W) (k : Nat) (hk : k ≤ 32) : ∀ i, (prodTo a e0 k).getLsbD i = (a.getLsbD i && decide (32 ≤ i + k) && decide (i < 32)) := by
  induction k with
  | zero =>
    intro i
    simp only [prodTo, BitVec.getLsbD_zero]
    by_cases h : i < 32
    · simp [show ¬ 32 ≤ i by omega]
    · simp [h]
  | succ k ih =>
    intro i
    simp only [prodTo, BitVec.getLsbD_xor, ih (by omega) i, bits_e0 k (by omega)]
    by_cases hi : i < 32
    · by_cases e : i = 31 - k
      · subst e
        have h1 : ¬ (32 ≤ 31 - k + k) := by omega
        have h2 : 32 ≤ 31 - k + (k + 1) := by omega
        have h3 : 31 - k < 32 := by omega
        cases hb : a.getLsbD (31 - k) <;> simp [h1, h2, h3]
      · have h1 : (1#32 <<< (31 - k)).getLsbD i = false := by
          simp only [BitVec.getLsbD_shiftLeft, BitVec.getLsbD_one]
          by_cases hlt : i < 31 - k
          · simp [hlt]
          · simp [show i - (31 - k) ≠ 0 by omega]
        have h2 : decide (32 ≤ i + k) = decide (32 ≤ i + (k + 1)) := by
          by_cases h : 32 ≤ i + k
          · simp [h, show 32 ≤ i + (k + 1) by omega]
          · simp [h, show ¬ 32 ≤ i + (k + 1) by omega]
        rw [h2]
        split <;> simp [h1]
    · have h1 : (1#32 <<< (31 - k)).getLsbD i = false := BitVec.getLsbD_of_ge _ _ (by omega)
      split <;> simp [h1, hi]
theorem prod_e0 (a : W) : prod a e0 = a := by
  apply BitVec.eq_of_getLsbD_eq
  intro i hi
  rw [show (prod a e0).getLsbD i = _ from prodTo_e0 a 32 (by omega) i]
  simp [hi]
theorem prod_assoc (a b c : W) : prod (prod a b) c = prod a (prod b c) := by
  have h1 : prod (prod a b) c = prod a (prod c b) := by
    conv => lhs; rw [← prod_e0 c]
    rw [prod_comm, prod_e0, prod_comm]
  have h2 : prod b c = prod c b := by
    conv => lhs; rw [← prod_e0 c]
    rw [prod_comm, prod_e0]
  rw [h1, h2]
theorem prod_x8 (v : W) : prod 0x800000#32 v = bits 8 v := by
  have h : ∀ j, j < 32 → (0x800000#32 : W).getLsbD (31 - j) = decide (j = 8) := by decide
  have h1 : ∀ k, k ≤ 32 → prodTo 0x800000#32 v k = if 8 < k then bits 8 v else 0#32 := by
    intro k hk
    induction k with
    | zero => rfl
    | succ k ih =>
      simp only [prodTo, ih (by omega), h k (by omega)]
      by_cases e : k = 8
      · subst e; simp
      · by_cases h8 : 8 < k
        · simp [h8, e, show 8 < k + 1 by omega]
        · simp [h8, e, show ¬ 8 < k + 1 by omega]
  rw [prod, h1 32 (by omega)]; rfl

/-- 'p' stands for so many bits further -/
def Power (p : W) (m : Nat) : Prop := ∀ v, prod p v = bits m v
theorem Power.x8 : Power 0x800000#32 8 := prod_x8
theorem Power.square {p : W} {m : Nat} (h : Power p m) : Power (prod p p) (m + m) := fun v => by
  rw [prod_assoc, h, h, bits_add]

theorem byte_eq (r : W) (c : UInt8) : byte r c = bits 8 r ^^^ byte 0#32 c := by
  unfold byte; rw [bits_xor]; simp
theorem run_split (r : W) (l : List UInt8) : run r l = bits (8 * l.length) r ^^^ run 0#32 l := by
  induction l generalizing r with
  | nil => simp [run, bits]
  | cons c l ih =>
    have e1 : run r (c :: l) = run (byte r c) l := rfl
    have e2 : run 0#32 (c :: l) = run (byte 0#32 c) l := rfl
    rw [e1, e2, ih (byte r c), ih (byte 0#32 c), byte_eq r c, bits_xor, ← bits_add, List.length_cons]
    rw [show 8 + 8 * l.length = 8 * (l.length + 1) by omega]
    ac_rfl
theorem run_append (r : W) (l m : List UInt8) : run r (l ++ m) = run (run r l) m := by simp [run]
theorem more_append (l m : List UInt8) : more 0#32 (l ++ m) = bits (8 * m.length) (more 0#32 l) ^^^ more 0#32 m := by
  unfold more
  rw [run_append, run_split (run _ l) m, run_split (~~~ (0#32 : W)) m]
  have h : run (~~~ (0#32 : W)) l = ~~~ (0#32 : W) ^^^ ~~~ run (~~~ (0#32 : W)) l := by
    generalize run (~~~ (0#32 : W)) l = x
    rw [show ~~~ (0#32 : W) = BitVec.allOnes 32 by decide, BitVec.allOnes_xor, BitVec.not_not]
  generalize hx : ~~~ run (~~~ (0#32 : W)) l = x at h ⊢
  rw [h, bits_xor]
  simp only [← BitVec.allOnes_xor]
  ac_rfl
end Go.Proofs.Crc
