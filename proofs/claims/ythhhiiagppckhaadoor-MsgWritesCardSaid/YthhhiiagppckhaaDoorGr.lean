/- Numbers and texts as bytes, plain: what an eye reads, what a pen writes; conditions: none beyond their hypotheses. -/
namespace Go.Proofs.Gr
set_option linter.unusedVariables false
def be (l : List UInt8) : Nat := l.foldl (fun n d => n * 256 + d.toNat) 0
theorem be_nil : be [] = 0 := rfl
theorem be_snoc (l : List UInt8) (c : UInt8) : be (l ++ [c]) = be l * 256 + c.toNat := by simp [be]
theorem be_take (l : List UInt8) (k : Nat) (c : UInt8) (h : l[k]? = some c) : be (l.take (k + 1)) = be (l.take k) * 256 + c.toNat := by
  rw [List.take_add_one, h]; exact be_snoc _ _
theorem be_lt_take (l : List UInt8) : ∀ k, be (l.take k) < 256 ^ k
  | 0 => by simp [be]
  | k + 1 => by
    have ih := be_lt_take l k
    rw [Nat.pow_succ]
    cases h : l[k]? with
    | none => rw [List.take_add_one, h]; simp only [Option.toList_none, List.append_nil]; omega
    | some c => rw [be_take l k c h]; have := c.toNat_lt; omega
theorem be_lt8 (l : List UInt8) (k : Nat) (hk : k ≤ 8) : be (l.take k) < 18446744073709551616 :=
  Nat.lt_of_lt_of_le (be_lt_take l k) (Nat.pow_le_pow_right (by decide) hk)
theorem be_lt7 (l : List UInt8) (k : Nat) (hk : k < 8) : be (l.take k) < 72057594037927936 :=
  Nat.lt_of_lt_of_le (be_lt_take l k) (Nat.pow_le_pow_right (by decide) (show k ≤ 7 by omega))
/-- an eye fails: its bytes, its fault -/
def efail (code : Nat) (b : List UInt8) (f : Nat) : List UInt8 × Nat := if f = 0 ∧ code ≠ 0 then ([], code) else (b, f)
theorem efail_new (code : Nat) (b : List UInt8) (h : code ≠ 0) : efail code b 0 = ([], code) := by simp [efail, h]
theorem efail_old (code : Nat) (b : List UInt8) (f : Nat) (h : f ≠ 0) : efail code b f = (b, f) := by simp [efail, h]
/-- a number that is at most most: the number, the bytes left, the fault -/
def enum (most : Nat) (b : List UInt8) (f : Nat) : Nat × List UInt8 × Nat :=
  if f ≠ 0 then (0, b, f) else
  match b with
  | [] => (0, [], 11)
  | c :: r =>
    if 8 < c.toNat then (0, [], 10)
    else if r.length < c.toNat then (0, [], 11)
    else if 0 < c.toNat ∧ r[0]? = some 0 then (0, [], 10)
    else if most < be (r.take c.toNat) then (0, [], 13)
    else (be (r.take c.toNat), r.drop c.toNat, 0)
theorem enum_fault (most : Nat) (b : List UInt8) (f : Nat) (h : f ≠ 0) : enum most b f = (0, b, f) := by simp [enum, h]
theorem enum_nil (most : Nat) : enum most [] 0 = (0, [], 11) := rfl
theorem enum_wide (most : Nat) (c : UInt8) (r : List UInt8) (h : 8 < c.toNat) : enum most (c :: r) 0 = (0, [], 10) := by simp [enum, h]
theorem enum_short (most : Nat) (c : UInt8) (r : List UInt8) (h : c.toNat ≤ 8) (h2 : r.length < c.toNat) : enum most (c :: r) 0 = (0, [], 11) := by
  simp [enum, show ¬ 8 < c.toNat by omega, h2]
theorem enum_zero (most : Nat) (c : UInt8) (r : List UInt8) (h : c.toNat ≤ 8) (h2 : c.toNat ≤ r.length) (h3 : 0 < c.toNat) (h4 : r[0]? = some 0) : enum most (c :: r) 0 = (0, [], 10) := by
  simp [enum, show ¬ 8 < c.toNat by omega, show ¬ r.length < c.toNat by omega, h3, h4]
theorem enum_much (most : Nat) (c : UInt8) (r : List UInt8) (h : c.toNat ≤ 8) (h2 : c.toNat ≤ r.length) (h3 : ¬ (0 < c.toNat ∧ r[0]? = some 0)) (h4 : most < be (r.take c.toNat)) : enum most (c :: r) 0 = (0, [], 13) := by
  unfold enum; rw [if_neg (by simp)]; simp only
  rw [if_neg (by omega), if_neg (by omega), if_neg h3, if_pos h4]
theorem enum_ok (most : Nat) (c : UInt8) (r : List UInt8) (h : c.toNat ≤ 8) (h2 : c.toNat ≤ r.length) (h3 : ¬ (0 < c.toNat ∧ r[0]? = some 0)) (h4 : be (r.take c.toNat) ≤ most) : enum most (c :: r) 0 = (be (r.take c.toNat), r.drop c.toNat, 0) := by
  unfold enum; rw [if_neg (by simp)]; simp only
  rw [if_neg (by omega), if_neg (by omega), if_neg h3, if_neg (by omega)]
theorem enum_le (most : Nat) (b : List UInt8) (f : Nat) : (enum most b f).1 ≤ most := by
  unfold enum; split
  · exact Nat.zero_le _
  · split
    · exact Nat.zero_le _
    · split <;> try exact Nat.zero_le _
      split <;> try exact Nat.zero_le _
      split <;> try exact Nat.zero_le _
      split <;> try exact Nat.zero_le _
      simp only; omega
theorem enum_len (most : Nat) (b : List UInt8) (f : Nat) : (enum most b f).2.1.length ≤ b.length := by
  unfold enum; split
  · exact Nat.le_refl _
  · split
    · exact Nat.zero_le _
    · split <;> try exact Nat.zero_le _
      split <;> try exact Nat.zero_le _
      split <;> try exact Nat.zero_le _
      split <;> try exact Nat.zero_le _
      simp; omega
/-- a text of at most so many bytes -/
def etext (most : Nat) (b : List UInt8) (f : Nat) : List UInt8 × List UInt8 × Nat :=
  let r := enum most b f
  if r.2.2 ≠ 0 then ([], r.2.1, r.2.2) else if r.2.1.length < r.1 then ([], [], 11) else (r.2.1.take r.1, r.2.1.drop r.1, 0)
theorem etext_len (most : Nat) (b : List UInt8) (f : Nat) : (etext most b f).1.length ≤ most := by
  have := enum_le most b f
  unfold etext; simp only
  split
  · exact Nat.zero_le _
  · split
    · exact Nat.zero_le _
    · simp; omega
theorem etext_left (most : Nat) (b : List UInt8) (f : Nat) : (etext most b f).2.1.length ≤ b.length := by
  have := enum_len most b f
  unfold etext; simp only
  split
  · exact this
  · split
    · exact Nat.zero_le _
    · simp; omega
/-- a number that is not 0 -/
def numP (most : Nat) (b : List UInt8) (f : Nat) : Nat × List UInt8 × Nat :=
  let r := enum most b f
  if r.1 = 0 then (0, efail 2 r.2.1 r.2.2) else r
theorem numP_zero {most : Nat} {b : List UInt8} {f : Nat} {r : Nat × List UInt8 × Nat} (h : enum most b f = r) (h0 : r.1 = 0) : numP most b f = (0, efail 2 r.2.1 r.2.2) := by subst h; simp [numP, h0]
theorem numP_pos {most : Nat} {b : List UInt8} {f : Nat} {r : Nat × List UInt8 × Nat} (h : enum most b f = r) (h0 : r.1 ≠ 0) : numP most b f = r := by subst h; simp [numP, h0]
theorem numP_le (most : Nat) (b : List UInt8) (f : Nat) : (numP most b f).1 ≤ most := by
  have := enum_le most b f
  unfold numP; simp only; split
  · exact Nat.zero_le _
  · exact this
theorem efail_len (code : Nat) (b : List UInt8) (f : Nat) : (efail code b f).1.length ≤ b.length := by unfold efail; split <;> simp
theorem numP_len (most : Nat) (b : List UInt8) (f : Nat) : (numP most b f).2.1.length ≤ b.length := by
  have h1 := enum_len most b f
  have h2 := efail_len 2 (enum most b f).2.1 (enum most b f).2.2
  unfold numP; simp only; split
  · exact Nat.le_trans h2 h1
  · exact h1
theorem etext_bad {most : Nat} {b : List UInt8} {f : Nat} {r : Nat × List UInt8 × Nat} (h : enum most b f = r) (h0 : r.2.2 ≠ 0) : etext most b f = ([], r.2.1, r.2.2) := by subst h; simp [etext, h0]
theorem etext_short {most : Nat} {b : List UInt8} {f : Nat} {r : Nat × List UInt8 × Nat} (h : enum most b f = r) (h0 : r.2.2 = 0) (h1 : r.2.1.length < r.1) : etext most b f = ([], [], 11) := by
  subst h; simp [etext, h0, h1]
theorem etext_ok {most : Nat} {b : List UInt8} {f : Nat} {r : Nat × List UInt8 × Nat} (h : enum most b f = r) (h0 : r.2.2 = 0) (h1 : r.1 ≤ r.2.1.length) : etext most b f = (r.2.1.take r.1, r.2.1.drop r.1, 0) := by
  subst h; simp [etext, h0, show ¬ (enum most b f).2.1.length < (enum most b f).1 by omega]
/-- a step of a delta -/
structure Stp where
  k : Int
  f : Int
  l : Int
  d : List UInt8
deriving DecidableEq
def zStp : Stp := ⟨0, 0, 0, []⟩
theorem numP_fault {most : Nat} {b : List UInt8} {f : Nat} (h : (numP most b f).1 = 0) : (numP most b f).2.2 ≠ 0 := by
  unfold numP at h ⊢
  simp only at h ⊢
  split at h
  · rename_i h0
    rw [if_pos h0]
    unfold efail; split
    · simp
    · rename_i h1; simp at h1; exact h1
  · rename_i h0; exact absurd h h0
/-- the step at the beginning of bytes, how many bytes it has, the fault -/
def nextP (b : List UInt8) : Stp × Nat × Nat :=
  let r1 := numP 2 b 0
  if r1.1 = 1 then
    let r2 := enum 4096 r1.2.1 r1.2.2
    let r3 := numP 4096 r2.2.1 r2.2.2
    if r3.2.2 ≠ 0 then (zStp, 0, r3.2.2) else (⟨1, r2.1, r3.1, []⟩, b.length - r3.2.1.length, 0)
  else if r1.1 = 2 then
    let r2 := etext 128 r1.2.1 r1.2.2
    let x := if r2.1.length = 0 then efail 2 r2.2.1 r2.2.2 else r2.2
    if x.2 ≠ 0 then (zStp, 0, x.2) else (⟨2, 0, r2.1.length, r2.1⟩, b.length - x.1.length, 0)
  else (zStp, 0, r1.2.2)
theorem nextP0 {b : List UInt8} {r1 : Nat × List UInt8 × Nat} (h1 : numP 2 b 0 = r1) (h : r1.1 = 0) : nextP b = (zStp, 0, r1.2.2) := by
  subst h1; unfold nextP; simp [h]
theorem nextP1 {b : List UInt8} {r1 r2 r3 : Nat × List UInt8 × Nat} (h1 : numP 2 b 0 = r1) (h : r1.1 = 1) (h2 : enum 4096 r1.2.1 r1.2.2 = r2) (h3 : numP 4096 r2.2.1 r2.2.2 = r3) :
    nextP b = if r3.2.2 ≠ 0 then (zStp, 0, r3.2.2) else (⟨1, r2.1, r3.1, []⟩, b.length - r3.2.1.length, 0) := by
  subst h1; subst h2; subst h3; unfold nextP; simp only; rw [if_pos h]
theorem nextP2 {b : List UInt8} {r1 : Nat × List UInt8 × Nat} {r2 : List UInt8 × List UInt8 × Nat} {x : List UInt8 × Nat} (h1 : numP 2 b 0 = r1) (h : r1.1 = 2) (h2 : etext 128 r1.2.1 r1.2.2 = r2) (h3 : (if r2.1.length = 0 then efail 2 r2.2.1 r2.2.2 else r2.2) = x) :
    nextP b = if x.2 ≠ 0 then (zStp, 0, x.2) else (⟨2, 0, r2.1.length, r2.1⟩, b.length - x.1.length, 0) := by
  subst h1; subst h2; subst h3; unfold nextP; simp only; rw [if_neg (by omega), if_pos h]
theorem numP_old {most : Nat} {b0 b : List UInt8} {f0 n f : Nat} (h : enum most b0 f0 = (n, b, f)) (hf : f ≠ 0) : numP most b0 f0 = (n, b, f) := by
  by_cases h0 : n = 0
  · subst h0
    rw [numP_zero h rfl]; simp only; rw [efail_old _ _ _ hf]
  · exact numP_pos h h0
theorem nextP1_bad {b b1 b2 b3 : List UInt8} {f1 f2 f3 fr ln : Nat} (h1 : numP 2 b 0 = (1, b1, f1)) (h2 : enum 4096 b1 f1 = (fr, b2, f2)) (h3 : numP 4096 b2 f2 = (ln, b3, f3)) (hf : f3 ≠ 0) : nextP b = (zStp, 0, f3) := by
  rw [nextP1 h1 rfl h2 h3, if_pos hf]
theorem nextP1_ok {b b1 b2 b3 : List UInt8} {f1 f2 fr ln : Nat} (h1 : numP 2 b 0 = (1, b1, f1)) (h2 : enum 4096 b1 f1 = (fr, b2, f2)) (h3 : numP 4096 b2 f2 = (ln, b3, 0)) : nextP b = (⟨1, fr, ln, []⟩, b.length - b3.length, 0) := by
  rw [nextP1 h1 rfl h2 h3, if_neg (by simp)]
theorem nextP2_bad {b b1 d b2 b4 : List UInt8} {f1 f2 f4 : Nat} (h1 : numP 2 b 0 = (2, b1, f1)) (h2 : etext 128 b1 f1 = (d, b2, f2)) (h3 : (if d.length = 0 then efail 2 b2 f2 else (b2, f2)) = (b4, f4)) (hf : f4 ≠ 0) : nextP b = (zStp, 0, f4) := by
  rw [nextP2 h1 rfl h2 h3, if_pos hf]
theorem nextP2_ok {b b1 d b2 b4 : List UInt8} {f1 f2 : Nat} (h1 : numP 2 b 0 = (2, b1, f1)) (h2 : etext 128 b1 f1 = (d, b2, f2)) (h3 : (if d.length = 0 then efail 2 b2 f2 else (b2, f2)) = (b4, 0)) : nextP b = (⟨2, 0, d.length, d⟩, b.length - b4.length, 0) := by
  rw [nextP2 h1 rfl h2 h3, if_neg (by simp)]
theorem x_old {d b2 : List UInt8} {f2 : Nat} (hf : f2 ≠ 0) : (if d.length = 0 then efail 2 b2 f2 else (b2, f2)) = (b2, f2) := by
  split
  · exact efail_old _ _ _ hf
  · rfl
end Go.Proofs.Gr
