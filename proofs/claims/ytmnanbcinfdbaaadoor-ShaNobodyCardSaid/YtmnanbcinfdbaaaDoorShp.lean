/- SHA-256, plain: words, rounds, blocks; conditions: none beyond their hypotheses. -/
namespace Go.Proofs.Sh
set_option linter.unusedVariables false
abbrev W := BitVec 32
def rotr (x : W) (n : Nat) : W := x <<< (32 - n) ||| x >>> n
def sg3 (x : W) (a b c : Nat) : W := rotr x a ^^^ rotr x b ^^^ rotr x c
def sg2 (x : W) (a b m : Nat) : W := rotr x a ^^^ rotr x b ^^^ x >>> m
def chf (x y z : W) : W := (x &&& y) ^^^ (~~~ x &&& z)
def majf (x y z : W) : W := (x &&& y) ^^^ (x &&& z) ^^^ (y &&& z)
theorem chf_or (x y z : W) : (x &&& y) ||| (~~~ x &&& z) = chf x y z := by
  unfold chf
  apply BitVec.eq_of_getLsbD_eq
  intro i hi
  simp only [BitVec.getLsbD_or, BitVec.getLsbD_and, BitVec.getLsbD_xor, BitVec.getLsbD_not, hi, decide_true, Bool.true_and]
  cases x.getLsbD i <;> cases y.getLsbD i <;> cases z.getLsbD i <;> rfl
theorem majf_or (x y z : W) : (x &&& y) ||| (x &&& z) ||| (y &&& z) = majf x y z := by
  unfold majf
  apply BitVec.eq_of_getLsbD_eq
  intro i hi
  simp only [BitVec.getLsbD_or, BitVec.getLsbD_and, BitVec.getLsbD_xor]
  cases x.getLsbD i <;> cases y.getLsbD i <;> cases z.getLsbD i <;> rfl
theorem rotr_lsb (x : W) (n i : Nat) (hn : n ≤ 32) (hi : i < 32) : (rotr x n).getLsbD i = if i + n < 32 then x.getLsbD (i + n) else x.getLsbD (i + n - 32) := by
  unfold rotr
  simp only [BitVec.getLsbD_or, BitVec.getLsbD_shiftLeft, BitVec.getLsbD_ushiftRight, hi, decide_true, Bool.true_and]
  by_cases h : i + n < 32
  · rw [if_pos h, show decide (i < 32 - n) = true by simp; omega, Nat.add_comm n i]; rfl
  · rw [if_neg h, show decide (i < 32 - n) = false by simp; omega, Nat.add_comm n i, BitVec.getLsbD_of_ge x (i + n) (by omega), show i - (32 - n) = i + n - 32 by omega]
    simp
theorem rotr_one (x : W) (n : Nat) (hn : n < 32) : rotr (rotr x n) 1 = rotr x (n + 1) := by
  apply BitVec.eq_of_getLsbD_eq
  intro i hi
  rw [rotr_lsb _ 1 i (by omega) hi, rotr_lsb x (n + 1) i (by omega) hi]
  by_cases h : i + 1 < 32
  · rw [if_pos h, rotr_lsb x n (i + 1) (by omega) h]
    rw [show i + 1 + n = i + (n + 1) by omega]
  · rw [if_neg h, show i + 1 - 32 = 0 by omega, rotr_lsb x n 0 (by omega) (by omega)]
    have hi31 : i = 31 := by omega
    subst hi31
    by_cases hn0 : 0 + n < 32
    · rw [if_pos hn0, if_neg (by omega)]; congr 1; omega
    · omega

structure V8 where
  a : W
  b : W
  c : W
  d : W
  e : W
  f : W
  g : W
  h : W
def V8.l (v : V8) : List W := [v.a, v.b, v.c, v.d, v.e, v.f, v.g, v.h]
def add8 (x y : V8) : V8 := ⟨x.a + y.a, x.b + y.b, x.c + y.c, x.d + y.d, x.e + y.e, x.f + y.f, x.g + y.g, x.h + y.h⟩
def sub8 (x y : V8) : V8 := ⟨x.a - y.a, x.b - y.b, x.c - y.c, x.d - y.d, x.e - y.e, x.f - y.f, x.g - y.g, x.h - y.h⟩
def rnd (v : V8) (k w : W) : V8 :=
  ⟨v.h + sg3 v.e 6 11 25 + chf v.e v.f v.g + k + w + (sg3 v.a 2 13 22 + majf v.a v.b v.c), v.a, v.b, v.c, v.d + (v.h + sg3 v.e 6 11 25 + chf v.e v.f v.g + k + w), v.e, v.f, v.g⟩
def kl : List Nat := [
  1116352408, 1899447441, 3049323471, 3921009573, 961987163, 1508970993, 2453635748, 2870763221,
  3624381080, 310598401, 607225278, 1426881987, 1925078388, 2162078206, 2614888103, 3248222580,
  3835390401, 4022224774, 264347078, 604807628, 770255983, 1249150122, 1555081692, 1996064986,
  2554220882, 2821834349, 2952996808, 3210313671, 3336571891, 3584528711, 113926993, 338241895,
  666307205, 773529912, 1294757372, 1396182291, 1695183700, 1986661051, 2177026350, 2456956037,
  2730485921, 2820302411, 3259730800, 3345764771, 3516065817, 3600352804, 4094571909, 275423344,
  430227734, 506948616, 659060556, 883997877, 958139571, 1322822218, 1537002063, 1747873779,
  1955562222, 2024104815, 2227730452, 2361852424, 2428436474, 2756734187, 3204031479, 3329325298]
def K (i : Nat) : W := BitVec.ofNat 32 (kl.getD i 0)
def hl : List Nat := [1779033703, 3144134277, 1013904242, 2773480762, 1359893119, 2600822924, 528734635, 1541459225]
def H0 : V8 := ⟨1779033703#32, 3144134277#32, 1013904242#32, 2773480762#32, 1359893119#32, 2600822924#32, 528734635#32, 1541459225#32⟩
def bw (c : UInt8) : W := BitVec.ofNat 32 c.toNat
def acc (x : W) (c : UInt8) : W := x <<< 8 ||| bw c
/-- the word of four bytes of a block -/
def wd (m : List UInt8) (i : Nat) : W := acc (acc (acc (acc 0#32 (m.getD (4 * i) 0)) (m.getD (4 * i + 1) 0)) (m.getD (4 * i + 2) 0)) (m.getD (4 * i + 3) 0)
def ext (l : List W) : List W := l ++ [l.getD (l.length - 16) 0#32 + l.getD (l.length - 7) 0#32 + sg2 (l.getD (l.length - 15) 0#32) 7 18 3 + sg2 (l.getD (l.length - 2) 0#32) 17 19 10]
def w16 (m : List UInt8) (i : Nat) : List W := (List.range i).map (wd m)
def exts : Nat → List W → List W
  | 0, l => l
  | n + 1, l => ext (exts n l)
def sched (m : List UInt8) : List W := exts 48 (w16 m 16)
theorem ext_len (l : List W) : (ext l).length = l.length + 1 := by simp [ext]
theorem exts_len (n : Nat) (l : List W) : (exts n l).length = l.length + n := by
  induction n with
  | zero => rfl
  | succ n ih => rw [exts, ext_len, ih]; omega
theorem exts_step (n : Nat) (l : List W) : exts (n + 1) l = ext (exts n l) := rfl
theorem w16_len (m : List UInt8) (i : Nat) : (w16 m i).length = i := by simp [w16]
theorem sched_len (m : List UInt8) : (sched m).length = 64 := by unfold sched; rw [exts_len, w16_len]
def rds (W : List W) (v : V8) : Nat → V8
  | 0 => v
  | i + 1 => rnd (rds W v i) (K i) (W.getD i 0#32)
def mixv (s : V8) (m : List UInt8) : V8 := add8 s (rds (sched m) s 64)
def eat : Nat → V8 → List UInt8 → V8
  | 0, s, _ => s
  | n + 1, s, l => mixv (eat n s l) ((l.drop (64 * n)).take 64)
/-- the state behind all whole blocks of bytes -/
def st (l : List UInt8) : V8 := eat (l.length / 64) H0 l
/-- what is left over -/
def tl (l : List UInt8) : List UInt8 := l.drop (64 * (l.length / 64))
theorem tl_len (l : List UInt8) : (tl l).length = l.length % 64 := by unfold tl; rw [List.length_drop]; omega
theorem eat_app (n : Nat) (s : V8) (l x : List UInt8) (h : 64 * n ≤ l.length) : eat n s (l ++ x) = eat n s l := by
  induction n with
  | zero => rfl
  | succ n ih =>
    rw [eat, eat, ih (by omega), List.drop_append_of_le_length (by omega), List.take_append_of_le_length (by rw [List.length_drop]; omega)]
theorem st_small (l x : List UInt8) (h : l.length % 64 + x.length < 64) : st (l ++ x) = st l ∧ tl (l ++ x) = tl l ++ x := by
  unfold st tl
  rw [List.length_append, show (l.length + x.length) / 64 = l.length / 64 by omega]
  exact ⟨eat_app _ _ _ _ (by omega), List.drop_append_of_le_length (by omega)⟩
theorem st_full (l x : List UInt8) (h : l.length % 64 + x.length = 64) : st (l ++ x) = mixv (st l) (tl l ++ x) ∧ tl (l ++ x) = [] := by
  unfold st tl
  rw [List.length_append, show (l.length + x.length) / 64 = l.length / 64 + 1 by omega]
  refine ⟨?_, List.drop_of_length_le (by rw [List.length_append]; omega)⟩
  rw [eat, eat_app _ _ _ _ (by omega), List.drop_append_of_le_length (by omega), List.take_of_length_le (by rw [List.length_append, List.length_drop]; omega)]
def eightb (n : Nat) : List UInt8 := (List.range 8).map fun i => UInt8.ofNat (n / 256 ^ (7 - i))
theorem eightb_len (n : Nat) : (eightb n).length = 8 := by simp [eightb]
def zeros (l : List UInt8) : List UInt8 := 128 :: List.replicate ((119 - l.length % 64) % 64) 0
def padded (l : List UInt8) : List UInt8 := l ++ zeros l ++ eightb (8 * l.length)
theorem zeros_len (l : List UInt8) : (zeros l).length = 1 + (119 - l.length % 64) % 64 := by simp [zeros]; omega
theorem padded_len (l : List UInt8) : (padded l).length % 64 = 0 := by
  unfold padded; rw [List.length_append, List.length_append, zeros_len, eightb_len]; omega
def wbytes (x : W) : List UInt8 := [UInt8.ofNat (x.toNat / 16777216), UInt8.ofNat (x.toNat / 65536), UInt8.ofNat (x.toNat / 256), UInt8.ofNat x.toNat]
def dig (l : List UInt8) : List UInt8 := (st (padded l)).l.flatMap wbytes
theorem dig_len (l : List UInt8) : (dig l).length = 32 := by simp [dig, V8.l, wbytes]
theorem st_nil : st [] = H0 := rfl
theorem add_sub8 (x y : V8) : add8 (sub8 x y) y = x := by
  unfold add8 sub8
  cases x; cases y
  simp [BitVec.sub_add_cancel]
end Go.Proofs.Sh
