/- Plain text, no program in sight: the CRC register, bit by bit and four bits at once; conditions: none. Plain text, no program in sight: registers multiplied, and the sum of two parts told of theirs; conditions: none. Plain text, no program in sight: bits turned within 32 in a row change the register that a row of bytes leaves; conditions: none. -/
set_option linter.unusedSimpArgs false
set_option linter.unusedVariables false
section
namespace Go.Proofs.Crc
abbrev W := BitVec 32
def P : W := 0x82f63b78#32
/-- one bit falls out -/
def bit (r : W) : W := if r.getLsbD 0 then (r >>> 1) ^^^ P else r >>> 1
def bits (n : Nat) (r : W) : W := match n with | 0 => r | n + 1 => bits n (bit r)
def byte (r : W) (c : UInt8) : W := bits 8 (r ^^^ c.toBitVec.setWidth 32)
def run (r : W) (l : List UInt8) : W := l.foldl byte r
def more (s : W) (l : List UInt8) : W := ~~~ run (~~~ s) l

theorem bit_eq (r : W) : bit r = (r >>> 1) ^^^ (if r.getLsbD 0 then P else 0#32) := by
  unfold bit; split <;> simp
theorem bit_xor (a b : W) : bit (a ^^^ b) = bit a ^^^ bit b := by
  simp only [bit_eq]
  rw [show (a ^^^ b).getLsbD 0 = (a.getLsbD 0 ^^ b.getLsbD 0) from BitVec.getLsbD_xor, BitVec.ushiftRight_xor_distrib]
  generalize a.getLsbD 0 = x
  generalize b.getLsbD 0 = y
  generalize a >>> 1 = c
  generalize b >>> 1 = d
  cases x <;> cases y
  · simp
  · simp [BitVec.xor_assoc]
  · simp [BitVec.xor_assoc, BitVec.xor_comm P d]
  · simp only [Bool.xor_self, if_true]
    rw [show (c ^^^ P) ^^^ (d ^^^ P) = (c ^^^ d) ^^^ (P ^^^ P) by ac_rfl, BitVec.xor_self]
    simp
theorem bits_xor (n : Nat) (a b : W) : bits n (a ^^^ b) = bits n a ^^^ bits n b := by
  induction n generalizing a b with
  | zero => rfl
  | succ n ih => simp only [bits, bit_xor, ih]
theorem bit_zero : bit 0#32 = 0#32 := by decide
theorem bits_zero (n : Nat) : bits n 0#32 = 0#32 := by
  induction n with
  | zero => rfl
  | succ n ih => simp only [bits, bit_zero, ih]
theorem bits_add (m n : Nat) (r : W) : bits (m + n) r = bits n (bits m r) := by
  induction m generalizing r with
  | zero => simp [bits]
  | succ m ih => rw [Nat.succ_add]; simp only [bits, ih]

theorem bits_succ (n : Nat) (r : W) : bits (n + 1) r = bit (bits n r) := by rw [bits_add]; rfl

/-- four bits at once -/
def nib (j : Nat) : W := #[0x00000000#32, 0x105ec76f#32, 0x20bd8ede#32, 0x30e349b1#32, 0x417b1dbc#32, 0x5125dad3#32, 0x61c69362#32, 0x7198540d#32,
  0x82f63b78#32, 0x92a8fc17#32, 0xa24bb5a6#32, 0xb21572c9#32, 0xc38d26c4#32, 0xd3d3e1ab#32, 0xe330a81a#32, 0xf36e6f75#32].getD j 0#32
theorem nib_low : ∀ l : BitVec 4, bits 4 (l.setWidth 32) = nib l.toNat := by decide
theorem bit_even (r : W) (h : r.getLsbD 0 = false) : bit r = r >>> 1 := by rw [bit_eq, h]; simp
theorem bits_high (r : W) : bits 4 ((r >>> 4) <<< 4) = r >>> 4 := by
  have e1 : bit ((r >>> 4) <<< 4) = (r >>> 4 <<< 4) >>> 1 := bit_even _ (by simp)
  have e2 : bit ((r >>> 4 <<< 4) >>> 1) = (r >>> 4 <<< 4) >>> 1 >>> 1 := bit_even _ (by simp)
  have e3 : bit ((r >>> 4 <<< 4) >>> 1 >>> 1) = (r >>> 4 <<< 4) >>> 1 >>> 1 >>> 1 := bit_even _ (by simp)
  have e4 : bit ((r >>> 4 <<< 4) >>> 1 >>> 1 >>> 1) = (r >>> 4 <<< 4) >>> 1 >>> 1 >>> 1 >>> 1 := bit_even _ (by simp)
  simp only [bits, e1, e2, e3, e4]
  apply BitVec.eq_of_toNat_eq
  simp only [BitVec.toNat_ushiftRight, BitVec.toNat_shiftLeft, Nat.shiftRight_eq_div_pow, Nat.shiftLeft_eq]
  have := r.isLt
  omega
theorem split (r : W) : r = ((r >>> 4) <<< 4) ^^^ ((r.setWidth 4).setWidth 32) := by
  apply BitVec.eq_of_getLsbD_eq
  intro i hi
  by_cases h : i < 4
  · simp [h, hi]
  · simp [h, hi]; rw [show 4 + (i - 4) = i by omega, BitVec.getLsbD_eq_getElem hi]
theorem nib_step (r : W) : (r >>> 4) ^^^ nib (r &&& 15#32).toNat = bits 4 r := by
  conv => rhs; rw [split r]
  rw [bits_xor, bits_high, nib_low]
  congr 2
  simp [BitVec.toNat_and, Nat.and_two_pow_sub_one_eq_mod r.toNat 4]
end Go.Proofs.Crc
end

section
namespace Go.Proofs.Crc

def prodTo (a b : W) : Nat → W
  | 0 => 0#32
  | k + 1 => prodTo a b k ^^^ (if a.getLsbD (31 - k) then bits k b else 0#32)
def prod (a b : W) : W := prodTo a b 32

theorem shl_zero {a : W} {k : Nat} (h : a <<< k = 0#32) {i : Nat} (hi : i + k < 32) : a.getLsbD i = false := by
  have h2 := congrArg (fun x : W => x.getLsbD (i + k)) h
  simp only [BitVec.getLsbD_shiftLeft, BitVec.getLsbD_zero] at h2
  rw [show i + k - k = i by omega] at h2
  simpa [hi] using h2
theorem prodTo_done {a b : W} {k : Nat} (h : a <<< k = 0#32) : ∀ j, k ≤ j → j ≤ 32 → prodTo a b j = prodTo a b k := by
  intro j hj hj2
  induction j with
  | zero => rw [show k = 0 by omega]
  | succ j ih =>
    by_cases e : k = j + 1
    · rw [e]
    · have hb := shl_zero h (i := 31 - j) (by omega)
      simp only [prodTo, hb, ih (by omega) (by omega)]
      simp
theorem prodTo_xor (a b c : W) (k : Nat) : prodTo a (b ^^^ c) k = prodTo a b k ^^^ prodTo a c k := by
  induction k with
  | zero => simp [prodTo]
  | succ k ih =>
    simp only [prodTo, ih, bits_xor]
    split
    · ac_rfl
    · simp
theorem prod_xor (a b c : W) : prod a (b ^^^ c) = prod a b ^^^ prod a c := prodTo_xor a b c 32
theorem prodTo_bit (a b : W) (k : Nat) : prodTo a (bit b) k = bit (prodTo a b k) := by
  induction k with
  | zero => exact bit_zero.symm
  | succ k ih =>
    simp only [prodTo, ih, bit_xor]
    split
    · rw [show bits k (bit b) = bit (bits k b) by rw [← bits_succ]; rfl]
    · rw [bit_zero]
theorem prod_bits (a b : W) (k : Nat) : prod a (bits k b) = bits k (prod a b) := by
  induction k generalizing b with
  | zero => rfl
  | succ k ih =>
    simp only [bits]
    rw [ih, show prod a (bit b) = bit (prod a b) from prodTo_bit a b 32]
theorem prod_zero (a : W) : prod a 0#32 = 0#32 := by
  have h := prod_xor a 0#32 0#32
  simp only [BitVec.xor_self] at h; exact h
theorem prod_prodTo (a b c : W) (k : Nat) : prod a (prodTo b c k) = prodTo b (prod a c) k := by
  induction k with
  | zero => exact prod_zero a
  | succ k ih =>
    simp only [prodTo, prod_xor, ih]
    split
    · rw [prod_bits]
    · rw [prod_zero]
theorem prod_comm (a b c : W) : prod a (prod b c) = prod b (prod a c) := prod_prodTo a b c 32

def e0 : W := 0x80000000#32
theorem bits_e0 : ∀ k, k < 32 → bits k e0 = 1#32 <<< (31 - k) := by decide +kernel
theorem prodTo_e0 (a : W) (k : Nat) (hk : k ≤ 32) : ∀ i, (prodTo a e0 k).getLsbD i = (a.getLsbD i && decide (32 ≤ i + k) && decide (i < 32)) := by
  induction k with
  | zero =>
    intro i
    simp only [prodTo, BitVec.getLsbD_zero]
    by_cases h : i < 32
    · simp [show ¬ 32 ≤ i by omega]
    · simp [h]
  | succ k ih =>
    intro i
    simp only [prodTo, BitVec.getLsbD_xor, ih (by omega) i, bits_e0 k (by omega)]
    by_cases hi : i < 32
    · by_cases e : i = 31 - k
      · subst e
        have h1 : ¬ (32 ≤ 31 - k + k) := by omega
        have h2 : 32 ≤ 31 - k + (k + 1) := by omega
        have h3 : 31 - k < 32 := by omega
        cases hb : a.getLsbD (31 - k) <;> simp [h1, h2, h3]
      · have h1 : (1#32 <<< (31 - k)).getLsbD i = false := by
          simp only [BitVec.getLsbD_shiftLeft, BitVec.getLsbD_one]
          by_cases hlt : i < 31 - k
          · simp [hlt]
          · simp [show i - (31 - k) ≠ 0 by omega]
        have h2 : decide (32 ≤ i + k) = decide (32 ≤ i + (k + 1)) := by
          by_cases h : 32 ≤ i + k
          · simp [h, show 32 ≤ i + (k + 1) by omega]
          · simp [h, show ¬ 32 ≤ i + (k + 1) by omega]
        rw [h2]
        split <;> simp [h1]
    · have h1 : (1#32 <<< (31 - k)).getLsbD i = false := BitVec.getLsbD_of_ge _ _ (by omega)
      split <;> simp [h1, hi]
theorem prod_e0 (a : W) : prod a e0 = a := by
  apply BitVec.eq_of_getLsbD_eq
  intro i hi
  rw [show (prod a e0).getLsbD i = _ from prodTo_e0 a 32 (by omega) i]
  simp [hi]
theorem prod_assoc (a b c : W) : prod (prod a b) c = prod a (prod b c) := by
  have h1 : prod (prod a b) c = prod a (prod c b) := by
    conv => lhs; rw [← prod_e0 c]
    rw [prod_comm, prod_e0, prod_comm]
  have h2 : prod b c = prod c b := by
    conv => lhs; rw [← prod_e0 c]
    rw [prod_comm, prod_e0]
  rw [h1, h2]
theorem prod_x8 (v : W) : prod 0x800000#32 v = bits 8 v := by
  have h : ∀ j, j < 32 → (0x800000#32 : W).getLsbD (31 - j) = decide (j = 8) := by decide
  have h1 : ∀ k, k ≤ 32 → prodTo 0x800000#32 v k = if 8 < k then bits 8 v else 0#32 := by
    intro k hk
    induction k with
    | zero => rfl
    | succ k ih =>
      simp only [prodTo, ih (by omega), h k (by omega)]
      by_cases e : k = 8
      · subst e; simp
      · by_cases h8 : 8 < k
        · simp [h8, e, show 8 < k + 1 by omega]
        · simp [h8, e, show ¬ 8 < k + 1 by omega]
  rw [prod, h1 32 (by omega)]; rfl

/-- 'p' stands for so many bits further -/
def Power (p : W) (m : Nat) : Prop := ∀ v, prod p v = bits m v
theorem Power.x8 : Power 0x800000#32 8 := prod_x8
theorem Power.square {p : W} {m : Nat} (h : Power p m) : Power (prod p p) (m + m) := fun v => by
  rw [prod_assoc, h, h, bits_add]

theorem byte_eq (r : W) (c : UInt8) : byte r c = bits 8 r ^^^ byte 0#32 c := by
  unfold byte; rw [bits_xor]; simp
theorem run_split (r : W) (l : List UInt8) : run r l = bits (8 * l.length) r ^^^ run 0#32 l := by
  induction l generalizing r with
  | nil => simp [run, bits]
  | cons c l ih =>
    have e1 : run r (c :: l) = run (byte r c) l := rfl
    have e2 : run 0#32 (c :: l) = run (byte 0#32 c) l := rfl
    rw [e1, e2, ih (byte r c), ih (byte 0#32 c), byte_eq r c, bits_xor, ← bits_add, List.length_cons]
    rw [show 8 + 8 * l.length = 8 * (l.length + 1) by omega]
    ac_rfl
theorem run_append (r : W) (l m : List UInt8) : run r (l ++ m) = run (run r l) m := by simp [run]
theorem more_append (l m : List UInt8) : more 0#32 (l ++ m) = bits (8 * m.length) (more 0#32 l) ^^^ more 0#32 m := by
  unfold more
  rw [run_append, run_split (run _ l) m, run_split (~~~ (0#32 : W)) m]
  have h : run (~~~ (0#32 : W)) l = ~~~ (0#32 : W) ^^^ ~~~ run (~~~ (0#32 : W)) l := by
    generalize run (~~~ (0#32 : W)) l = x
    rw [show ~~~ (0#32 : W) = BitVec.allOnes 32 by decide, BitVec.allOnes_xor, BitVec.not_not]
  generalize hx : ~~~ run (~~~ (0#32 : W)) l = x at h ⊢
  rw [h, bits_xor]
  simp only [← BitVec.allOnes_xor]
  ac_rfl
end Go.Proofs.Crc
end

section
namespace Go.Proofs.Crc

/-- the register behind n bits -/
def runF (r : W) (f : Nat → Bool) : Nat → W
  | 0 => r
  | n + 1 => bit (runF r f n ^^^ (if f n then 1#32 else 0#32))
theorem runF_xor (r r' : W) (f g : Nat → Bool) (n : Nat) : runF (r ^^^ r') (fun k => f k ^^ g k) n = runF r f n ^^^ runF r' g n := by
  induction n with
  | zero => rfl
  | succ n ih =>
    simp only [runF, ih, ← bit_xor]
    congr 1
    rcases Bool.eq_false_or_eq_true (f n) with h1 | h1 <;> rcases Bool.eq_false_or_eq_true (g n) with h2 | h2 <;> simp only [h1, h2, Bool.xor_self, Bool.xor_true, Bool.xor_false, Bool.not_false, Bool.not_true, if_true, if_false, Bool.false_eq_true]
    · rw [show runF r f n ^^^ 1#32 ^^^ (runF r' g n ^^^ 1#32) = (runF r f n ^^^ runF r' g n) ^^^ (1#32 ^^^ 1#32) by ac_rfl, BitVec.xor_self]
    · ac_rfl
    · ac_rfl
    · simp
theorem runF_congr (r : W) (f g : Nat → Bool) (n : Nat) (h : ∀ k, k < n → f k = g k) : runF r f n = runF r g n := by
  induction n with
  | zero => rfl
  | succ n ih => simp only [runF]; rw [ih (fun k hk => h k (by omega)), h n (by omega)]

/-- the next j bits from n on, as a word, the first one lowest -/
def wsum (f : Nat → Bool) (n : Nat) : Nat → W
  | 0 => 0#32
  | j + 1 => wsum f n j ^^^ (if f (n + j) then 1#32 <<< j else 0#32)
theorem bits_one : ∀ j, j < 32 → bits j (1#32 <<< j) = 1#32 := by decide +kernel
theorem runF_add (r : W) (f : Nat → Bool) (n j : Nat) (hj : j ≤ 32) : runF r f (n + j) = bits j (runF r f n ^^^ wsum f n j) := by
  induction j with
  | zero => simp [bits, wsum]
  | succ j ih =>
    show bit (runF r f (n + j) ^^^ (if f (n + j) then 1#32 else 0#32)) = _
    rw [ih (by omega), bits_succ, wsum]
    congr 1
    by_cases h : f (n + j) = true
    · simp only [h, if_true]
      rw [← BitVec.xor_assoc, bits_xor _ _ (1#32 <<< j), bits_one j (by omega)]
    · simp [h]
theorem wsum_bit (f : Nat → Bool) (n j : Nat) (hj : j ≤ 32) (i : Nat) : (wsum f n j).getLsbD i = (decide (i < j) && f (n + i)) := by
  induction j with
  | zero => simp [wsum]
  | succ j ih =>
    simp only [wsum, BitVec.getLsbD_xor, ih (by omega)]
    by_cases e : i = j
    · subst e
      have h1 : (1#32 <<< i).getLsbD i = true := by simp [BitVec.getLsbD_shiftLeft, show i < 32 by omega]
      split <;> simp_all
    · have h1 : (1#32 <<< j).getLsbD i = false := by
        simp only [BitVec.getLsbD_shiftLeft, BitVec.getLsbD_one]
        by_cases hlt : i < j
        · simp [hlt]
        · simp [show i - j ≠ 0 by omega]
      have h2 : decide (i < j + 1) = decide (i < j) := by
        by_cases h : i < j
        · simp [h, show i < j + 1 by omega]
        · simp [h, show ¬ i < j + 1 by omega]
      rw [h2]
      split <;> simp [h1]

theorem bit_inj_zero {r : W} (h : bit r = 0#32) : r = 0#32 := by
  rw [bit_eq] at h
  have h31 := congrArg (fun x : W => x.getLsbD 31) h
  simp only [BitVec.getLsbD_xor, BitVec.getLsbD_ushiftRight, BitVec.getLsbD_zero] at h31
  rw [BitVec.getLsbD_of_ge r (1 + 31) (by omega)] at h31
  have h0 : r.getLsbD 0 = false := by
    cases hb : r.getLsbD 0
    · rfl
    · rw [hb] at h31; simp [P] at h31
  rw [h0] at h
  simp only [Bool.false_eq_true, if_false, BitVec.xor_zero] at h
  apply BitVec.eq_of_getLsbD_eq
  intro i hi
  cases i with
  | zero => rw [h0]; simp
  | succ i =>
    have := congrArg (fun x : W => x.getLsbD i) h
    simp only [BitVec.getLsbD_ushiftRight, BitVec.getLsbD_zero] at this
    rw [Nat.add_comm i 1, this]; simp
theorem bits_inj_zero {r : W} {k : Nat} (h : bits k r = 0#32) : r = 0#32 := by
  induction k generalizing r with
  | zero => exact h
  | succ k ih => exact bit_inj_zero (ih h)
theorem runF_zero (f : Nat → Bool) (n : Nat) (h : ∀ k, k < n → f k = false) : runF 0#32 f n = 0#32 := by
  induction n with
  | zero => rfl
  | succ n ih => simp only [runF]; rw [ih (fun k hk => h k (by omega)), h n (by omega)]; simp [bit_zero]
theorem runF_rest (r : W) (f : Nat → Bool) (n j : Nat) (h : ∀ k, n ≤ k → k < n + j → f k = false) : runF r f (n + j) = bits j (runF r f n) := by
  induction j with
  | zero => rfl
  | succ j ih =>
    show bit (runF r f (n + j) ^^^ (if f (n + j) then 1#32 else 0#32)) = _
    rw [ih (fun k h1 h2 => h k h1 (by omega)), h (n + j) (by omega) (by omega), bits_succ]; simp

/-- bits turned, not further apart than 32 in a row, are told by the register -/
theorem burst_ne (g : Nat → Bool) (p n : Nat) (hp : p < n) (h1 : g p = true) (h0 : ∀ k, k < p → g k = false) (h2 : ∀ k, p + 32 ≤ k → k < n → g k = false) : runF 0#32 g n ≠ 0#32 := by
  intro e
  have key : ∀ j, 1 ≤ j → j ≤ 32 → runF 0#32 g (p + j) ≠ 0#32 := by
    intro j hj hj2 e
    rw [runF_add _ _ _ _ hj2, runF_zero g p h0] at e
    have e2 := bits_inj_zero e
    have e3 := congrArg (fun x : W => x.getLsbD 0) e2
    simp only [BitVec.getLsbD_xor, BitVec.getLsbD_zero, wsum_bit g p j hj2 0, Nat.add_zero, h1] at e3
    simp at e3; omega
  by_cases hn : n ≤ p + 32
  · exact key (n - p) (by omega) (by omega) (by rw [show p + (n - p) = n by omega]; exact e)
  · rw [show n = p + 32 + (n - (p + 32)) by omega, runF_rest _ _ _ _ (fun k h3 h4 => h2 k h3 (by omega))] at e
    exact key 32 (by omega) (by omega) (bits_inj_zero e)

/-! bytes as bits -/
def bitAt (l : List UInt8) (k : Nat) : Bool := (l.getD (k / 8) 0).toNat.testBit (k % 8)
theorem zext_bit (c : UInt8) (i : Nat) : (c.toBitVec.setWidth 32 : W).getLsbD i = (decide (i < 8) && c.toNat.testBit i) := by
  rw [BitVec.getLsbD_setWidth]
  show (decide (i < 32) && c.toNat.testBit i) = _
  by_cases h : i < 8
  · simp [h, show i < 32 by omega]
  · have : c.toNat.testBit i = false := Nat.testBit_lt_two_pow (Nat.lt_of_lt_of_le c.toNat_lt (Nat.pow_le_pow_right (by omega) (by omega)))
    simp [this]
theorem wsum_byte (l : List UInt8) (i : Nat) : wsum (bitAt l) (8 * i) 8 = (l.getD i 0).toBitVec.setWidth 32 := by
  apply BitVec.eq_of_getLsbD_eq
  intro k hk
  rw [wsum_bit _ _ _ (by omega), zext_bit]
  unfold bitAt
  by_cases h : k < 8
  · rw [show (8 * i + k) / 8 = i by omega, show (8 * i + k) % 8 = k by omega]
  · simp [h]
theorem run_runF (r : W) (l : List UInt8) (i : Nat) (hi : i ≤ l.length) : runF r (bitAt l) (8 * i) = run r (l.take i) := by
  induction i with
  | zero => rfl
  | succ i ih =>
    rw [show 8 * (i + 1) = 8 * i + 8 by omega, runF_add _ _ _ _ (by omega), ih (by omega), wsum_byte]
    unfold run
    rw [List.take_succ_eq_append_getElem (by omega), List.foldl_append]
    simp only [List.foldl_cons, List.foldl_nil, byte]
    rw [show l.getD i 0 = l[i] by simp [List.getD, show i < l.length by omega]]
theorem run_bits (r : W) (l : List UInt8) : run r l = runF r (bitAt l) (8 * l.length) := by
  rw [run_runF r l l.length (Nat.le_refl _), List.take_length]

/-- two rows of one length whose bits differ in a window of 32 at some place do not leave one register -/
theorem run_burst (r : W) (l m : List UInt8) (hl : l.length = m.length) (g : Nat → Bool) (hg : ∀ k, k < 8 * l.length → bitAt m k = (bitAt l k ^^ g k))
    (p : Nat) (hp : p < 8 * l.length) (h1 : g p = true) (h0 : ∀ k, k < p → g k = false) (h2 : ∀ k, p + 32 ≤ k → k < 8 * l.length → g k = false) : run r l ≠ run r m := by
  rw [run_bits, run_bits, ← hl, runF_congr r (bitAt m) (fun k => bitAt l k ^^ g k) _ hg]
  have h := runF_xor r 0#32 (bitAt l) g (8 * l.length)
  simp only [BitVec.xor_zero] at h
  rw [h]
  intro e
  have e2 : runF 0#32 g (8 * l.length) = 0#32 := by
    have := congrArg (fun x => runF r (bitAt l) (8 * l.length) ^^^ x) e
    simp only [BitVec.xor_self, ← BitVec.xor_assoc, BitVec.zero_xor] at this
    exact this.symm
  exact burst_ne g p _ hp h1 h0 h2 e2

/-- the least place of a window at which something is true -/
theorem first_true (g : Nat → Bool) (n : Nat) (h : ∃ k, k < n ∧ g k = true) : ∃ p, p < n ∧ g p = true ∧ ∀ k, k < p → g k = false := by
  induction n with
  | zero => obtain ⟨k, hk, _⟩ := h; omega
  | succ n ih =>
    by_cases h2 : ∃ k, k < n ∧ g k = true
    · obtain ⟨p, hp, h3, h4⟩ := ih h2
      exact ⟨p, by omega, h3, h4⟩
    · obtain ⟨k, hk, hg⟩ := h
      have hkn : k = n := by
        by_cases e : k < n
        · exact absurd ⟨k, e, hg⟩ h2
        · omega
      subst hkn
      exact ⟨k, by omega, hg, fun j hj => by
        cases hb : g j
        · rfl
        · exact absurd ⟨j, hj, hb⟩ h2⟩
theorem run_window (r : W) (l m : List UInt8) (hl : l.length = m.length) (g : Nat → Bool) (hg : ∀ k, k < 8 * l.length → bitAt m k = (bitAt l k ^^ g k))
    (s : Nat) (hw : ∀ k, g k = true → s ≤ k ∧ k < s + 32) (h : ∃ k, k < 8 * l.length ∧ g k = true) : run r l ≠ run r m := by
  obtain ⟨p, hp, h1, h0⟩ := first_true g _ h
  have hs := hw p h1
  refine run_burst r l m hl g hg p hp h1 h0 (fun k hk _ => ?_)
  cases hb : g k
  · rfl
  · have := hw k hb; omega
end Go.Proofs.Crc
end
