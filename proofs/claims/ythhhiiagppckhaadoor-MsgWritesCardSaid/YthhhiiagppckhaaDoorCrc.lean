/- Plain text, no program in sight: the CRC register, bit by bit and four bits at once; conditions: none. -/
namespace Go.Proofs.Crc
abbrev W := BitVec 32
def P : W := 0x82f63b78#32
/-- one bit falls out -/
def bit (r : W) : W := if r.getLsbD 0 then (r >>> 1) ^^^ P else r >>> 1
def bits (n : Nat) (r : W) : W := match n with | 0 => r | n + 1 => bits n (bit r)
def byte (r : W) (c : UInt8) : W := bits 8 (r ^^^ c.toBitVec.setWidth 32)
def run (r : W) (l : List UInt8) : W := l.foldl byte r
def more (s : W) (l : List UInt8) : W := ~~~ run (~~~ s) l

theorem bit_eq (r : W) : bit r = (r >>> 1) ^^^ (if r.getLsbD 0 then P else 0#32) := by
  unfold bit; split <;> simp
theorem bit_xor (a b : W) : bit (a ^^^ b) = bit a ^^^ bit b := by
  simp only [bit_eq]
  rw [show (a ^^^ b).getLsbD 0 = (a.getLsbD 0 ^^ b.getLsbD 0) from BitVec.getLsbD_xor, BitVec.ushiftRight_xor_distrib]
  generalize a.getLsbD 0 = x
  generalize b.getLsbD 0 = y
  generalize a >>> 1 = c
  generalize b >>> 1 = d
  cases x <;> cases y
  · simp
  · simp [BitVec.xor_assoc]
  · simp [BitVec.xor_assoc, BitVec.xor_comm P d]
  · simp only [Bool.xor_self, if_true]
    rw [show (c ^^^ P) ^^^ (d ^^^ P) = (c ^^^ d) ^^^ (P ^^^ P) by ac_rfl, BitVec.xor_self]
    simp
theorem bits_xor (n : Nat) (a b : W) : bits n (a ^^^ b) = bits n a ^^^ bits n b := by
  induction n generalizing a b with
  | zero => rfl
  | succ n ih => simp only [bits, bit_xor, ih]
theorem bit_zero : bit 0#32 = 0#32 := by decide
theorem bits_zero (n : Nat) : bits n 0#32 = 0#32 := by
  induction n with
  | zero => rfl
  | succ n ih => simp only [bits, bit_zero, ih]
theorem bits_add (m n : Nat) (r : W) : bits (m + n) r = bits n (bits m r) := by
  induction m generalizing r with
  | zero => simp [bits]
  | succ m ih => rw [Nat.succ_add]; simp only [bits, ih]

theorem bits_succ (n : Nat) (r : W) : bits (n + 1) r = bit (bits n r) := by rw [bits_add]; rfl

/-- four bits at once -/
def nib (j : Nat) : W := #[0x00000000#32, 0x105ec76f#32, 0x20bd8ede#32, 0x30e349b1#32, 0x417b1dbc#32, 0x5125dad3#32, 0x61c69362#32, 0x7198540d#32,
  0x82f63b78#32, 0x92a8fc17#32, 0xa24bb5a6#32, 0xb21572c9#32, 0xc38d26c4#32, 0xd3d3e1ab#32, 0xe330a81a#32, 0xf36e6f75#32].getD j 0#32
theorem nib_low : ∀ l : BitVec 4, bits 4 (l.setWidth 32) = nib l.toNat := by decide
theorem bit_even (r : W) (h : r.getLsbD 0 = false) : bit r = r >>> 1 := by rw [bit_eq, h]; simp
theorem bits_high (r : W) : bits 4 ((r >>> 4) <<< 4) = r >>> 4 := by
  have e1 : bit ((r >>> 4) <<< 4) = (r >>> 4 <<< 4) >>> 1 := bit_even _ (by simp)
  have e2 : bit ((r >>> 4 <<< 4) >>> 1) = (r >>> 4 <<< 4) >>> 1 >>> 1 := bit_even _ (by simp)
  have e3 : bit ((r >>> 4 <<< 4) >>> 1 >>> 1) = (r >>> 4 <<< 4) >>> 1 >>> 1 >>> 1 := bit_even _ (by simp)
  have e4 : bit ((r >>> 4 <<< 4) >>> 1 >>> 1 >>> 1) = (r >>> 4 <<< 4) >>> 1 >>> 1 >>> 1 >>> 1 := bit_even _ (by simp)
  simp only [bits, e1, e2, e3, e4]
  apply BitVec.eq_of_toNat_eq
  simp only [BitVec.toNat_ushiftRight, BitVec.toNat_shiftLeft, Nat.shiftRight_eq_div_pow, Nat.shiftLeft_eq]
  have := r.isLt
  omega
theorem split (r : W) : r = ((r >>> 4) <<< 4) ^^^ ((r.setWidth 4).setWidth 32) := by
  apply BitVec.eq_of_getLsbD_eq
  intro i hi
  by_cases h : i < 4
  · simp [h, hi]
  · simp [h, hi]; rw [show 4 + (i - 4) = i by omega, BitVec.getLsbD_eq_getElem hi]
theorem nib_step (r : W) : (r >>> 4) ^^^ nib (r &&& 15#32).toNat = bits 4 r := by
  conv => rhs; rw [split r]
  rw [bits_xor, bits_high, nib_low]
  congr 2
  simp [BitVec.toNat_and, Nat.and_two_pow_sub_one_eq_mod r.toNat 4]
end Go.Proofs.Crc
