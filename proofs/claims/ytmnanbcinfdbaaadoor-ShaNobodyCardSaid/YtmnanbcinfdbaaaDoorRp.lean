/- Numbers in digits of 2^16, plain: products, comparison, roots, primes; conditions: none beyond their hypotheses. -/
namespace Go.Proofs.Rp
set_option linter.unusedVariables false
def vf (f : Nat → Nat) : Nat → Nat
  | 0 => 0
  | n + 1 => vf f n + f n * 65536 ^ n
def dg (l : List Nat) (j : Nat) : Nat := l.getD j 0
def val (l : List Nat) : Nat := vf (dg l) l.length
def Dig (l : List Nat) : Prop := ∀ j, dg l j < 65536
theorem dg_at {l : List Nat} {j x : Nat} (h : l[j]? = some x) : dg l j = x := by simp [dg, List.getD, h]
theorem dg_out {l : List Nat} {j : Nat} (h : l.length ≤ j) : dg l j = 0 := by simp [dg, List.getD, List.getElem?_eq_none h]
theorem at_dg {l : List Nat} {j : Nat} (h : j < l.length) : l[j]? = some (dg l j) := by simp [dg, List.getD, List.getElem?_eq_getElem h]
theorem dg_set {l : List Nat} {j : Nat} (x i : Nat) (h : j < l.length) : dg (l.set j x) i = if i = j then x else dg l i := by
  unfold dg List.getD
  rw [List.getElem?_set]
  by_cases e : j = i
  · subst e; simp [h]
  · rw [if_neg e, if_neg (fun h => e h.symm)]
theorem Dig.set {l : List Nat} {j x : Nat} (h : Dig l) (hj : j < l.length) (hx : x < 65536) : Dig (l.set j x) := by
  intro i; rw [dg_set x i hj]; split
  · exact hx
  · exact h i
theorem vf_ext {f g : Nat → Nat} : ∀ n, (∀ j, j < n → f j = g j) → vf f n = vf g n
  | 0, _ => rfl
  | n + 1, h => by rw [vf, vf, vf_ext n (fun j hj => h j (by omega)), h n (by omega)]
theorem vf_lt {f : Nat → Nat} (h : ∀ j, f j < 65536) : ∀ n, vf f n < 65536 ^ n
  | 0 => by simp [vf]
  | n + 1 => by
    have h1 := vf_lt h n
    have h2 := h n
    have h3 : (f n + 1) * 65536 ^ n ≤ 65536 * 65536 ^ n := Nat.mul_le_mul_right _ h2
    rw [vf, Nat.pow_succ, Nat.mul_comm (65536 ^ n)]
    rw [Nat.add_mul, Nat.one_mul] at h3
    omega
theorem vf_set {f : Nat → Nat} {j x : Nat} : ∀ n, j < n → vf (fun i => if i = j then x else f i) n + f j * 65536 ^ j = vf f n + x * 65536 ^ j
  | 0, h => by omega
  | n + 1, h => by
    rw [vf, vf]
    by_cases e : j = n
    · subst e
      rw [vf_ext (g := f) j (fun i hi => by rw [if_neg (by omega)]), if_pos rfl]
      omega
    · have := vf_set (f := f) (j := j) (x := x) n (by omega)
      rw [if_neg (fun h => e h.symm)]
      omega
theorem val_set {l : List Nat} {j x : Nat} (h : j < l.length) : val (l.set j x) + dg l j * 65536 ^ j = val l + x * 65536 ^ j := by
  unfold val
  rw [List.length_set, vf_ext (g := fun i => if i = j then x else dg l i) _ (fun i _ => dg_set x i h)]
  exact vf_set _ h
theorem vf_pad {l : List Nat} : ∀ k, vf (dg l) (l.length + k) = val l
  | 0 => rfl
  | k + 1 => by rw [← Nat.add_assoc, vf, vf_pad k, dg_out (by omega)]; omega
theorem vf_len {l : List Nat} {n : Nat} (h : l.length ≤ n) : vf (dg l) n = val l := by
  obtain ⟨k, rfl⟩ := Nat.exists_eq_add_of_le h; exact vf_pad k
theorem vf_shift {f : Nat → Nat} : ∀ n, vf f (n + 1) = f 0 + 65536 * vf (fun j => f (j + 1)) n
  | 0 => by simp [vf]
  | n + 1 => by
    rw [vf, vf_shift n, vf, Nat.pow_succ, Nat.mul_add]
    have : f (n + 1) * (65536 ^ n * 65536) = 65536 * (f (n + 1) * 65536 ^ n) := by
      rw [Nat.mul_comm (65536 ^ n), Nat.mul_left_comm]
    omega
theorem val_cons (x : Nat) (l : List Nat) : val (x :: l) = x + 65536 * val l := by
  unfold val
  rw [List.length_cons, vf_shift]
  rfl
theorem vf_cmp {f g : Nat → Nat} {i : Nat} (hf : ∀ j, f j < 65536) (he : ∀ j, i < j → f j = g j) (hi : f i < g i) : ∀ n, i < n → vf f n < vf g n
  | 0, h => by omega
  | n + 1, h => by
    rw [vf, vf]
    by_cases e : i = n
    · subst e
      have h1 := vf_lt hf i
      have h2 : (f i + 1) * 65536 ^ i ≤ g i * 65536 ^ i := Nat.mul_le_mul_right _ hi
      rw [Nat.add_mul, Nat.one_mul] at h2
      omega
    · have := vf_cmp hf he hi n (by omega)
      rw [he n (by omega)]
      omega
/-- one step of a product's row -/
theorem row_step {o b : List Nat} {i k ai c V0 : Nat} (hik : i + k < o.length)
    (h : val o + c * 65536 ^ (i + k) = V0 + ai * vf (dg b) k * 65536 ^ i) :
    val (o.set (i + k) ((dg o (i + k) + ai * dg b k + c) % 65536)) + (dg o (i + k) + ai * dg b k + c) / 65536 * 65536 ^ (i + (k + 1)) = V0 + ai * vf (dg b) (k + 1) * 65536 ^ i := by
  have h1 := val_set (l := o) (j := i + k) (x := (dg o (i + k) + ai * dg b k + c) % 65536) (by omega)
  generalize hn : dg o (i + k) + ai * dg b k + c = n at h1 ⊢
  rw [vf, Nat.mul_add, Nat.add_mul, ← Nat.add_assoc i k 1, Nat.pow_succ]
  have e1 : ai * (dg b k * 65536 ^ k) * 65536 ^ i = ai * dg b k * 65536 ^ (i + k) := by
    rw [Nat.pow_add]; simp only [Nat.mul_assoc, Nat.mul_left_comm, Nat.mul_comm]
  have e2 : n / 65536 * (65536 ^ (i + k) * 65536) + n % 65536 * 65536 ^ (i + k) = n * 65536 ^ (i + k) := by
    have : n / 65536 * (65536 ^ (i + k) * 65536) = (n / 65536 * 65536) * 65536 ^ (i + k) := by
      rw [Nat.mul_comm (65536 ^ (i + k)), Nat.mul_assoc]
    rw [this, ← Nat.add_mul, Nat.mul_comm (n / 65536), Nat.div_add_mod]
  have e3 : n * 65536 ^ (i + k) = dg o (i + k) * 65536 ^ (i + k) + ai * dg b k * 65536 ^ (i + k) + c * 65536 ^ (i + k) := by rw [← hn, Nat.add_mul, Nat.add_mul]
  omega
theorem row_bound {x a b c : Nat} (hx : x < 65536) (ha : a < 65536) (hb : b < 65536) (hc : c < 65536) : x + a * b + c < 4294967296 := by
  have h1 : a * b ≤ 65535 * 65535 := Nat.mul_le_mul (by omega) (by omega)
  omega
def isRoot (r T k : Nat) : Prop := r ^ k ≤ T ∧ T < (r + 1) ^ k
theorem root_uniq {r s T k : Nat} (hr : isRoot r T k) (hs : isRoot s T k) : r = s := by
  rcases Nat.lt_trichotomy r s with h | h | h
  · have := Nat.pow_le_pow_left (show r + 1 ≤ s from h) k
    have := hr.2; have := hs.1; omega
  · exact h
  · have := Nat.pow_le_pow_left (show s + 1 ≤ r from h) k
    have := hr.1; have := hs.2; omega
def pstep (l : List Nat) (n : Nat) : List Nat := if l.any (fun q => n % q == 0) then l else l ++ [n]
def pl : Nat → List Nat
  | 0 => []
  | k + 1 => pstep (pl k) (k + 2)
theorem pl_mono (k : Nat) : (pl k).length ≤ (pl (k + 1)).length := by
  rw [pl, pstep]; split
  · exact Nat.le_refl _
  · simp
theorem pl_mono' (k m : Nat) : (pl k).length ≤ (pl (k + m)).length := by
  induction m with
  | zero => exact Nat.le_refl _
  | succ m ih => exact Nat.le_trans ih (pl_mono _)
theorem pl_pos : ∀ k, ∀ q ∈ pl k, 2 ≤ q ∧ q < k + 2
  | 0, q, h => by simp [pl] at h
  | k + 1, q, h => by
    rw [pl, pstep] at h
    split at h
    · have := pl_pos k q h; omega
    · rcases List.mem_append.1 h with h | h
      · have := pl_pos k q h; omega
      · simp at h; omega
def pr : List Nat := [2, 3, 5, 7, 11, 13, 17, 19, 23, 29, 31, 37, 41, 43, 47, 53, 59, 61, 67, 71, 73, 79, 83, 89, 97, 101, 103, 107, 109, 113, 127, 131, 137, 139, 149, 151, 157, 163, 167, 173, 179, 181, 191, 193, 197, 199, 211, 223, 227, 229, 233, 239, 241, 251, 257, 263, 269, 271, 277, 281, 283, 293, 307, 311]
theorem pl_310 : pl 310 = pr := by decide +kernel
theorem pl_309 : (pl 309).length = 63 := by decide +kernel
theorem pl_lt {k : Nat} (h : k < 310) : (pl k).length < 64 := by
  have := pl_mono' k (309 - k)
  rw [show k + (309 - k) = 309 by omega, pl_309] at this
  omega
def r2 : List Nat := [6074000999, 7439101573, 9603838834, 11363415354, 14244795007, 15485724812, 17708603819, 18721328409]
def r3 : List Nat := [5411319704, 6194414737, 7344290767, 8215976869, 9551921755, 10098905585, 11043570340, 11460697813, 12214315672, 13195500289, 13492127166, 14311783875, 14809980276, 15046980094, 15499789991, 16133124468, 16720292289, 16907126662, 17444216262, 17784676812, 17950125167, 18429019306, 18734950876, 19175934170, 19734090066, 20001703533, 20132865992, 20390182855, 20516441075, 20764397895, 21588763473, 21813078375, 22141143685, 22248366392, 22769593852, 22871018771, 23170020180, 23461497531, 23651862830, 23931792517, 24205322401, 24295138891, 24734567280, 24820601251, 24990902297, 25075189284, 25569408389, 26045227120, 26200031510, 26276752392, 26428864332, 26653801653, 26727943347, 27092625994, 27306805839, 27517677555, 27725365998, 27793908591, 27997534228, 28131656200, 28198240250, 28526537963, 28973835255, 29099129074]
def hl : List Nat := [1779033703, 3144134277, 1013904242, 2773480762, 1359893119, 2600822924, 528734635, 1541459225]
theorem r2_root : ∀ i, i < 8 → isRoot (r2.getD i 0) (pr.getD i 0 * 65536 ^ 4) 2 ∧ r2.getD i 0 % 4294967296 = hl.getD i 0 := by
  have : ∀ i : Fin 8, ((r2.getD i.1 0) ^ 2 ≤ (pr.getD i.1 0 * 65536 ^ 4) ∧ (pr.getD i.1 0 * 65536 ^ 4) < (r2.getD i.1 0 + 1) ^ 2) ∧ r2.getD i.1 0 % 4294967296 = hl.getD i.1 0 := by decide +kernel
  intro i hi; exact this ⟨i, hi⟩
def kl : List Nat := [
  1116352408, 1899447441, 3049323471, 3921009573, 961987163, 1508970993, 2453635748, 2870763221,
  3624381080, 310598401, 607225278, 1426881987, 1925078388, 2162078206, 2614888103, 3248222580,
  3835390401, 4022224774, 264347078, 604807628, 770255983, 1249150122, 1555081692, 1996064986,
  2554220882, 2821834349, 2952996808, 3210313671, 3336571891, 3584528711, 113926993, 338241895,
  666307205, 773529912, 1294757372, 1396182291, 1695183700, 1986661051, 2177026350, 2456956037,
  2730485921, 2820302411, 3259730800, 3345764771, 3516065817, 3600352804, 4094571909, 275423344,
  430227734, 506948616, 659060556, 883997877, 958139571, 1322822218, 1537002063, 1747873779,
  1955562222, 2024104815, 2227730452, 2361852424, 2428436474, 2756734187, 3204031479, 3329325298]
theorem r3_root : ∀ i, i < 64 → isRoot (r3.getD i 0) (pr.getD i 0 * 65536 ^ 6) 3 ∧ r3.getD i 0 % 4294967296 = kl.getD i 0 := by
  have : ∀ i : Fin 64, ((r3.getD i.1 0) ^ 3 ≤ (pr.getD i.1 0 * 65536 ^ 6) ∧ (pr.getD i.1 0 * 65536 ^ 6) < (r3.getD i.1 0 + 1) ^ 3) ∧ r3.getD i.1 0 % 4294967296 = kl.getD i.1 0 := by decide +kernel
  intro i hi; exact this ⟨i, hi⟩
theorem val_eq_of {a b : List Nat} (h : ∀ j, dg a j = dg b j) : val a = val b := by
  rw [← vf_len (l := a) (n := a.length + b.length) (by omega), ← vf_len (l := b) (n := a.length + b.length) (by omega)]
  exact vf_ext _ fun j _ => h j
theorem val_lt_of {a b : List Nat} {i : Nat} (ha : Dig a) (he : ∀ j, i < j → dg a j = dg b j) (hi : dg a i < dg b i) : val a < val b := by
  have := vf_cmp ha he hi (a.length + b.length + i + 1) (by omega)
  rwa [vf_len (by omega), vf_len (by omega)] at this
theorem val_zeros (l : List Nat) : ∀ k, val (List.replicate k 0 ++ l) = 65536 ^ k * val l
  | 0 => by simp
  | k + 1 => by rw [List.replicate_succ, List.cons_append, val_cons, val_zeros l k, Nat.pow_succ, Nat.zero_add, ← Nat.mul_assoc, Nat.mul_comm 65536]
/-- one step of a root by bits -/
def RInv (T k r b : Nat) : Prop := r ^ k ≤ T ∧ T < (r + 2 ^ b) ^ k ∧ r + 2 ^ b ≤ 2 ^ 37
theorem RInv.up {T k r b : Nat} (h : RInv T k r (b + 1)) (hle : (r + 2 ^ b) ^ k ≤ T) : RInv T k (r + 2 ^ b) b := by
  obtain ⟨h1, h2, h3⟩ := h
  rw [Nat.pow_succ] at h2 h3
  refine ⟨hle, ?_, by omega⟩
  rwa [show r + 2 ^ b + 2 ^ b = r + 2 ^ b * 2 by omega]
theorem RInv.stay {T k r b : Nat} (h : RInv T k r (b + 1)) (hle : ¬ (r + 2 ^ b) ^ k ≤ T) : RInv T k r b := by
  obtain ⟨h1, h2, h3⟩ := h
  rw [Nat.pow_succ] at h3
  exact ⟨h1, by omega, by omega⟩
theorem RInv.root {T k r : Nat} (h : RInv T k r 0) : isRoot r T k := ⟨h.1, by simpa using h.2.1⟩
theorem RInv.start2 {p : Nat} (hp : p ≤ 311) : RInv (p * 65536 ^ 4) 2 0 37 := ⟨by simp, by
  have : p * 65536 ^ 4 ≤ 311 * 65536 ^ 4 := Nat.mul_le_mul_right _ hp
  refine Nat.lt_of_le_of_lt this ?_
  decide, by decide⟩
theorem RInv.start3 {p : Nat} (hp : p ≤ 311) : RInv (p * 65536 ^ 6) 3 0 37 := ⟨by simp, by
  have : p * 65536 ^ 6 ≤ 311 * 65536 ^ 6 := Nat.mul_le_mul_right _ hp
  refine Nat.lt_of_le_of_lt this ?_
  decide, by decide⟩
theorem pl_ge {k : Nat} (h : 310 ≤ k) : 64 ≤ (pl k).length := by
  have := pl_mono' 310 (k - 310)
  rw [show 310 + (k - 310) = k by omega, pl_310] at this
  exact this
theorem pl_upto {k : Nat} (h : (pl k).length < 64) : k < 310 := by
  rcases Nat.lt_or_ge k 310 with h2 | h2
  · exact h2
  · have := pl_ge h2; omega
theorem pl_bd {k : Nat} (h : k ≤ 310) : (pl k).length ≤ 64 := by
  have := pl_mono' k (310 - k)
  rw [show k + (310 - k) = 310 by omega, pl_310] at this
  exact this
end Go.Proofs.Rp
