/- Messages, plain: what a payload is read as, what a message is written as, whether it is right; conditions: none beyond their hypotheses. -/
import Derived.Test.YthhhiiagppckhaaDoorGrw
import Derived.Test.YthhhiiagppckhaaDoorGrd
namespace Go.Proofs.Ms
open Go.Proofs.Gr
set_option linter.unusedVariables false
structure Rw where
  path : List UInt8
  kind : Int
  version : Nat
  stamp : Nat
  size : Int
deriving DecidableEq
structure Msg where
  kind : Int
  session : Nat
  n : Nat
  proto : Int
  path : List UInt8
  what : Int
  version : Nat
  attempt : Nat
  stamp : Nat
  offset : Int
  total : Int
  size : Int
  code : Int
  flag : Bool
  data : List UInt8
  rows : List Rw
deriving DecidableEq
def zero : Msg := ⟨0, 0, 0, 0, [], 0, 0, 0, 0, 0, 0, 0, 0, false, [], []⟩
def MAX : Nat := 18446744073709551615
/-- what a kind names -/
def hasN : Nat → List UInt8
  | 1 => [112, 115]
  | 2 => [112, 115, 102]
  | 3 => [115, 110, 80]
  | 4 => [110, 102, 114]
  | 5 => [115, 110, 80, 118, 111]
  | 6 => [110, 119, 84, 111, 100]
  | 7 => [115, 110, 80, 119, 118, 84, 111, 100]
  | 8 => [115, 110, 80, 102]
  | 9 => [115, 110, 80, 97, 118, 116, 111, 102]
  | 10 => [115, 110, 80, 97, 119, 118, 116, 84, 122, 102]
  | 11 => [115, 110, 97, 111, 100]
  | 12 => [115, 110, 97]
  | 13 => [115, 110, 80, 97, 118, 116]
  | 14 => [115, 110]
  | 15 => [110, 111, 102]
  | 16 => [110, 99]
  | _ => []
def has (k : Int) : List UInt8 := hasN k.toNat
def alpha : List UInt8 := [112, 115, 110, 102, 80, 119, 118, 97, 116, 111, 84, 122, 99, 100, 114]
theorem hasN_big (k : Nat) (h : 16 < k) : hasN k = [] := by
  unfold hasN; split <;> first | omega | rfl
theorem hasN_alpha (k : Nat) : (∀ c ∈ hasN k, c ∈ alpha) ∧ (hasN k).Nodup := by
  by_cases h : 16 < k
  · rw [hasN_big k h]; simp
  · have : ∀ k : Fin 17, (∀ c ∈ hasN k.1, c ∈ alpha) ∧ (hasN k.1).Nodup := by decide
    exact this ⟨k, by omega⟩
/-- a row is read -/
def drow (b : List UInt8) (f : Nat) : Rw × List UInt8 × Nat :=
  let r1 := etext 96 b f
  let r2 := enum 2 r1.2.1 r1.2.2
  let r3 := enum MAX r2.2.1 r2.2.2
  let r4 := enum MAX r3.2.1 r3.2.2
  let r5 := enum 4096 r4.2.1 r4.2.2
  (⟨r1.1, r2.1, r3.1, r4.1, r5.1⟩, r5.2)
def drows : Nat → List UInt8 → Nat → List Rw × List UInt8 × Nat
  | 0, b, f => ([], b, f)
  | n + 1, b, f => if f = 0 then ((drow b f).1 :: (drows n (drow b f).2.1 (drow b f).2.2).1, (drows n (drow b f).2.1 (drow b f).2.2).2) else ([], b, f)
def rowsP (b : List UInt8) (f : Nat) : List Rw × List UInt8 × Nat := drows (enum 8 b f).1 (enum 8 b f).2.1 (enum 8 b f).2.2
abbrev St := Msg × List UInt8 × Nat
/-- what a letter names is read -/
def step (c : UInt8) (s : St) : St :=
  if c = 112 then ({s.1 with proto := (enum 255 s.2.1 s.2.2).1}, (enum 255 s.2.1 s.2.2).2)
  else if c = 119 then ({s.1 with what := (enum 2 s.2.1 s.2.2).1}, (enum 2 s.2.1 s.2.2).2)
  else if c = 111 then ({s.1 with offset := (enum 8300 s.2.1 s.2.2).1}, (enum 8300 s.2.1 s.2.2).2)
  else if c = 84 then ({s.1 with total := (enum 8300 s.2.1 s.2.2).1}, (enum 8300 s.2.1 s.2.2).2)
  else if c = 122 then ({s.1 with size := (enum 4096 s.2.1 s.2.2).1}, (enum 4096 s.2.1 s.2.2).2)
  else if c = 115 then ({s.1 with session := (enum MAX s.2.1 s.2.2).1}, (enum MAX s.2.1 s.2.2).2)
  else if c = 110 then ({s.1 with n := (enum MAX s.2.1 s.2.2).1}, (enum MAX s.2.1 s.2.2).2)
  else if c = 118 then ({s.1 with version := (enum MAX s.2.1 s.2.2).1}, (enum MAX s.2.1 s.2.2).2)
  else if c = 97 then ({s.1 with attempt := (enum MAX s.2.1 s.2.2).1}, (enum MAX s.2.1 s.2.2).2)
  else if c = 116 then ({s.1 with stamp := (enum MAX s.2.1 s.2.2).1}, (enum MAX s.2.1 s.2.2).2)
  else if c = 102 then ({s.1 with flag := decide ((enum 1 s.2.1 s.2.2).1 = 1)}, (enum 1 s.2.1 s.2.2).2)
  else if c = 80 then ({s.1 with path := (etext 96 s.2.1 s.2.2).1}, (etext 96 s.2.1 s.2.2).2)
  else if c = 99 then ({s.1 with code := (enum 99 s.2.1 s.2.2).1}, (enum 99 s.2.1 s.2.2).2)
  else if c = 100 then ({s.1 with data := (etext 200 s.2.1 s.2.2).1}, (etext 200 s.2.1 s.2.2).2)
  else ({s.1 with rows := (rowsP s.2.1 s.2.2).1}, (rowsP s.2.1 s.2.2).2)
def steps (l : List UInt8) (s : St) : St := l.foldl (fun s c => step c s) s
theorem steps_nil (s : St) : steps [] s = s := rfl
theorem steps_cons (c : UInt8) (l : List UInt8) (s : St) : steps (c :: l) s = steps l (step c s) := rfl
theorem steps_take (l : List UInt8) (k : Nat) (c : UInt8) (s : St) (h : l[k]? = some c) : steps (l.take (k + 1)) s = step c (steps (l.take k) s) := by
  rw [List.take_add_one, h]; simp [steps, List.foldl_append]
def close (b : List UInt8) (f : Nat) : Nat := if f ≠ 0 then f else if 0 < b.length then 12 else 0
def readP (b : List UInt8) : Msg × Nat :=
  let r := enum MAX b 0
  if hasN r.1 = [] then (zero, close (efail 2 r.2.1 r.2.2).1 (efail 2 r.2.1 r.2.2).2) else
  let s := steps (hasN r.1) ({zero with kind := r.1}, r.2)
  if close s.2.1 s.2.2 ≠ 0 then (zero, close s.2.1 s.2.2) else (s.1, 0)
/-- a row's bytes -/
def rowB (x : Rw) : List UInt8 := (numB x.path.length ++ x.path) ++ (numB x.kind.toNat ++ (numB x.version ++ (numB x.stamp ++ numB x.size.toNat)))
def part (c : UInt8) (m : Msg) : List UInt8 :=
  if c = 112 then numB m.proto.toNat
  else if c = 119 then numB m.what.toNat
  else if c = 111 then numB m.offset.toNat
  else if c = 84 then numB m.total.toNat
  else if c = 122 then numB m.size.toNat
  else if c = 115 then numB m.session
  else if c = 110 then numB m.n
  else if c = 118 then numB m.version
  else if c = 97 then numB m.attempt
  else if c = 116 then numB m.stamp
  else if c = 102 then numB (if m.flag = true then 1 else 0)
  else if c = 80 then numB m.path.length ++ m.path
  else if c = 99 then numB m.code.toNat
  else if c = 100 then numB m.data.length ++ m.data
  else numB m.rows.length ++ m.rows.flatMap rowB
def enc (m : Msg) : List UInt8 := numB m.kind.toNat ++ (has m.kind).flatMap fun c => part c m
def inb (x most : Int) : Bool := decide (0 ≤ x ∧ x ≤ most)
def bnd (c : UInt8) (m : Msg) : Bool :=
  if c = 112 then inb m.proto 255
  else if c = 119 then inb m.what 2
  else if c = 111 then inb m.offset 8300
  else if c = 84 then inb m.total 8300
  else if c = 122 then inb m.size 4096
  else if c = 99 then inb m.code 99
  else if c = 114 then m.rows.all fun x => inb x.kind 2 && inb x.size 4096
  else true
def len (c : UInt8) (m : Msg) : Bool :=
  if c = 80 then decide (m.path.length ≤ 96)
  else if c = 100 then decide (m.data.length ≤ 200)
  else if c = 114 then decide (m.rows.length ≤ 8) && m.rows.all fun x => decide (x.path.length ≤ 96)
  else true
def check (m : Msg) : Nat := if has m.kind = [] ∨ (has m.kind).all (fun c => bnd c m) = false then 2 else if (has m.kind).all (fun c => len c m) = false then 13 else 0

theorem enum_back {most : Nat} {b : List UInt8} {f : Nat} (h : (enum most b f).2.2 = 0) : f = 0 ∧ b = numB (enum most b f).1 ++ (enum most b f).2.1 ∧ (enum most b f).1 ≤ most := by
  obtain ⟨n, b', f', hE⟩ : ∃ n b' f', enum most b f = (n, b', f') := ⟨_, _, _, rfl⟩
  rw [hE] at h ⊢
  simp only at h ⊢
  subst h
  obtain rfl := enum_ok0 hE
  exact ⟨rfl, enum_bytes hE⟩
theorem etext_back {most : Nat} {b : List UInt8} {f : Nat} (h : (etext most b f).2.2 = 0) : f = 0 ∧ b = (numB (etext most b f).1.length ++ (etext most b f).1) ++ (etext most b f).2.1 ∧ (etext most b f).1.length ≤ most := by
  have hle := etext_len most b f
  obtain ⟨d, b', f', hE⟩ : ∃ d b' f', etext most b f = (d, b', f') := ⟨_, _, _, rfl⟩
  rw [hE] at h hle ⊢
  simp only at h hle ⊢
  subst h
  obtain ⟨n, b1, h1, hn, rfl, rfl⟩ := etext_ok0 hE
  obtain rfl := enum_ok0 h1
  obtain ⟨rfl, _⟩ := enum_bytes h1
  refine ⟨rfl, ?_, hle⟩
  rw [List.length_take, Nat.min_eq_left hn, List.append_assoc, List.take_append_drop]
def rowOk (x : Rw) : Prop := (inb x.kind 2 && inb x.size 4096) = true ∧ x.path.length ≤ 96
theorem drow_back {b : List UInt8} {f : Nat} (h : (drow b f).2.2 = 0) : f = 0 ∧ b = rowB (drow b f).1 ++ (drow b f).2.1 ∧ rowOk (drow b f).1 := by
  unfold drow at h ⊢
  simp only at h ⊢
  obtain ⟨h4, e5, l5⟩ := enum_back h
  obtain ⟨h3, e4, l4⟩ := enum_back h4
  obtain ⟨h2, e3, l3⟩ := enum_back h3
  obtain ⟨h1, e2, l2⟩ := enum_back h2
  obtain ⟨h0, e1, l1⟩ := etext_back h1
  refine ⟨h0, ?_, ?_, l1⟩
  · unfold rowB
    rw [List.append_assoc] at e1
    simp only [Int.toNat_natCast, List.append_assoc]
    rw [← e5, ← e4, ← e3, ← e2]
    exact e1
  · simp [inb]; omega
theorem drows_back : ∀ (n : Nat) (b : List UInt8) (f : Nat), (drows n b f).2.2 = 0 → f = 0 ∧ b = (drows n b f).1.flatMap rowB ++ (drows n b f).2.1 ∧ (drows n b f).1.length = n ∧ ∀ x ∈ (drows n b f).1, rowOk x
  | 0, b, f, h => ⟨h, by simp [drows], rfl, by simp [drows]⟩
  | n + 1, b, f, h => by
    unfold drows at h ⊢
    by_cases hf : f = 0
    · rw [if_pos hf] at h ⊢
      obtain ⟨h1, e1, l1, r1⟩ := drows_back n _ _ h
      obtain ⟨h2, e2, r2⟩ := drow_back h1
      refine ⟨h2, ?_, by simp [l1], ?_⟩
      · simp only [List.flatMap_cons, List.append_assoc]
        rw [← e1]; exact e2
      · intro x hx
        rcases List.mem_cons.1 hx with rfl | hx
        · exact r2
        · exact r1 x hx
    · rw [if_neg hf] at h; exact absurd h hf
theorem rowsP_back {b : List UInt8} {f : Nat} (h : (rowsP b f).2.2 = 0) : f = 0 ∧ b = (numB (rowsP b f).1.length ++ (rowsP b f).1.flatMap rowB) ++ (rowsP b f).2.1 ∧ (rowsP b f).1.length ≤ 8 ∧ ∀ x ∈ (rowsP b f).1, rowOk x := by
  obtain ⟨h1, e1, l1, r1⟩ := drows_back _ _ _ h
  obtain ⟨h2, e2, l2⟩ := enum_back h1
  refine ⟨h2, ?_, by unfold rowsP; omega, r1⟩
  unfold rowsP
  rw [l1, List.append_assoc, ← e1]
  exact e2
theorem inb_nat {n most : Nat} (h : n ≤ most) : inb (n : Int) (most : Int) = true := by unfold inb; rw [decide_eq_true_eq]; omega
/-- what is read of a letter is its part, and right -/
theorem step_back (c : UInt8) (hc : c ∈ alpha) (s : St) (h : (step c s).2.2 = 0) : s.2.2 = 0 ∧ s.2.1 = part c (step c s).1 ++ (step c s).2.1 ∧ bnd c (step c s).1 = true ∧ len c (step c s).1 = true := by
  obtain ⟨m, b, f⟩ := s
  simp only [alpha, List.mem_cons, List.not_mem_nil, or_false] at hc
  rcases hc with rfl | rfl | rfl | rfl | rfl | rfl | rfl | rfl | rfl | rfl | rfl | rfl | rfl | rfl | rfl
  case inr.inr.inr.inl =>
    obtain ⟨h0, e, l⟩ := enum_back (most := 1) h
    refine ⟨h0, ?_, rfl, rfl⟩
    have : numB (if decide ((enum 1 b f).1 = 1) = true then 1 else 0) = numB (enum 1 b f).1 := by
      congr 1
      by_cases h1 : (enum 1 b f).1 = 1
      · simp [h1]
      · have : (enum 1 b f).1 = 0 := by simp only at l; omega
        simp [this]
    show b = numB (if decide ((enum 1 b f).1 = 1) = true then 1 else 0) ++ (enum 1 b f).2.1
    rw [this]; exact e
  case inr.inr.inr.inr.inl =>
    obtain ⟨h0, e, l⟩ := etext_back (most := 96) h
    exact ⟨h0, e, rfl, decide_eq_true l⟩
  case inr.inr.inr.inr.inr.inr.inr.inr.inr.inr.inr.inr.inr.inl =>
    obtain ⟨h0, e, l⟩ := etext_back (most := 200) h
    exact ⟨h0, e, rfl, decide_eq_true l⟩
  case inr.inr.inr.inr.inr.inr.inr.inr.inr.inr.inr.inr.inr.inr =>
    obtain ⟨h0, e, l, r⟩ := rowsP_back h
    refine ⟨h0, e, ?_, ?_⟩
    · show (rowsP b f).1.all _ = true
      rw [List.all_eq_true]; exact fun x hx => (r x hx).1
    · show (decide ((rowsP b f).1.length ≤ 8) && (rowsP b f).1.all _) = true
      rw [Bool.and_eq_true, List.all_eq_true]; exact ⟨by simpa using l, fun x hx => by simpa using (r x hx).2⟩
  all_goals
    obtain ⟨h0, e, l⟩ := enum_back h
    refine ⟨h0, e, ?_, rfl⟩
    first
      | rfl
      | exact inb_nat l
theorem ite_kind {p : Prop} [Decidable p] {a b : St} {k : Int} (h1 : a.1.kind = k) (h2 : b.1.kind = k) : (if p then a else b).1.kind = k := by
  split
  · exact h1
  · exact h2
theorem step_kind (c : UInt8) (s : St) : (step c s).1.kind = s.1.kind := by
  unfold step
  repeat (first | rfl | refine ite_kind rfl ?_)
theorem step_other (c d : UInt8) (hc : c ∈ alpha) (hd : d ∈ alpha) (hne : d ≠ c) (s : St) : part d (step c s).1 = part d s.1 ∧ bnd d (step c s).1 = bnd d s.1 ∧ len d (step c s).1 = len d s.1 := by
  simp only [alpha, List.mem_cons, List.not_mem_nil, or_false] at hc hd
  rcases hc with rfl | rfl | rfl | rfl | rfl | rfl | rfl | rfl | rfl | rfl | rfl | rfl | rfl | rfl | rfl <;>
  rcases hd with rfl | rfl | rfl | rfl | rfl | rfl | rfl | rfl | rfl | rfl | rfl | rfl | rfl | rfl | rfl <;>
  first
    | exact absurd rfl hne
    | exact ⟨rfl, rfl, rfl⟩
theorem steps_other (d : UInt8) (hd : d ∈ alpha) : ∀ (l : List UInt8) (s : St), (∀ c ∈ l, c ∈ alpha) → d ∉ l → part d (steps l s).1 = part d s.1 ∧ bnd d (steps l s).1 = bnd d s.1 ∧ len d (steps l s).1 = len d s.1
  | [], s, _, _ => ⟨rfl, rfl, rfl⟩
  | c :: l, s, ha, hn => by
    obtain ⟨h1, h2, h3⟩ := steps_other d hd l (step c s) (fun x hx => ha x (List.mem_cons_of_mem _ hx)) (fun h => hn (List.mem_cons_of_mem _ h))
    obtain ⟨k1, k2, k3⟩ := step_other c d (ha c List.mem_cons_self) hd (fun e => hn (by rw [e]; exact List.mem_cons_self)) s
    rw [steps_cons]
    exact ⟨h1.trans k1, h2.trans k2, h3.trans k3⟩
theorem steps_kind : ∀ (l : List UInt8) (s : St), (steps l s).1.kind = s.1.kind
  | [], s => rfl
  | c :: l, s => by rw [steps_cons, steps_kind l, step_kind]
theorem steps_back : ∀ (l : List UInt8) (s : St), (∀ c ∈ l, c ∈ alpha) → l.Nodup → (steps l s).2.2 = 0 → s.2.2 = 0 ∧ s.2.1 = (l.flatMap fun c => part c (steps l s).1) ++ (steps l s).2.1 ∧ l.all (fun c => bnd c (steps l s).1) = true ∧ l.all (fun c => len c (steps l s).1) = true
  | [], s, _, _, h => ⟨h, by simp [steps_nil], rfl, rfl⟩
  | c :: l, s, ha, hn, h => by
    rw [steps_cons] at h ⊢
    have hc := ha c List.mem_cons_self
    have hl : ∀ x ∈ l, x ∈ alpha := fun x hx => ha x (List.mem_cons_of_mem _ hx)
    obtain ⟨hcn, hln⟩ := List.nodup_cons.1 hn
    obtain ⟨h1, e1, b1, l1⟩ := steps_back l (step c s) hl hln h
    obtain ⟨h2, e2, b2, l2⟩ := step_back c hc s h1
    obtain ⟨o1, o2, o3⟩ := steps_other c hc l (step c s) hl hcn
    refine ⟨h2, ?_, ?_, ?_⟩
    · rw [List.flatMap_cons, List.append_assoc, ← e1, o1]; exact e2
    · rw [List.all_cons, o2, b2, Bool.true_and]; exact b1
    · rw [List.all_cons, o3, l2, Bool.true_and]; exact l1
theorem close_ok {b : List UInt8} {f : Nat} (h : close b f = 0) : b = [] ∧ f = 0 := by
  unfold close at h
  split at h
  · rename_i h0; exact absurd h h0
  · rename_i h0
    split at h
    · exact absurd h (by decide)
    · rename_i h1
      exact ⟨List.eq_nil_of_length_eq_zero (by omega), by omega⟩
theorem close_bad {b : List UInt8} {f : Nat} : close (efail 2 b f).1 (efail 2 b f).2 ≠ 0 := by
  by_cases hf : f = 0
  · subst hf; rw [efail_new _ _ (by decide)]; decide
  · rw [efail_old _ _ _ hf]; unfold close; rw [if_pos hf]; exact hf
/-- a message that was read is right, and has just these bytes -/
theorem readP_back {b : List UInt8} (h : (readP b).2 = 0) : check (readP b).1 = 0 ∧ enc (readP b).1 = b := by
  unfold readP at h ⊢
  simp only at h ⊢
  by_cases hh : hasN (enum MAX b 0).1 = []
  · rw [if_pos hh] at h; exact absurd h close_bad
  · rw [if_neg hh] at h ⊢
    generalize hs : steps (hasN (enum MAX b 0).1) ({zero with kind := (enum MAX b 0).1}, (enum MAX b 0).2) = s at h ⊢
    by_cases hc : close s.2.1 s.2.2 ≠ 0
    · rw [if_pos hc] at h; exact absurd h hc
    · rw [if_neg hc] at h ⊢
      obtain ⟨e1, e2⟩ := close_ok (Decidable.not_not.1 hc)
      obtain ⟨ha, hn⟩ := hasN_alpha (enum MAX b 0).1
      have hk := steps_kind (hasN (enum MAX b 0).1) ({zero with kind := (enum MAX b 0).1}, (enum MAX b 0).2)
      have hb := steps_back (hasN (enum MAX b 0).1) ({zero with kind := (enum MAX b 0).1}, (enum MAX b 0).2) ha hn (by rw [hs]; exact e2)
      rw [hs] at hk hb
      simp only at hk hb ⊢
      obtain ⟨h1, h2, h3, h4⟩ := hb
      rw [show s.2.1 = [] from e1, List.append_nil] at h2
      obtain ⟨_, h5, _⟩ := enum_back (most := MAX) (b := b) (f := 0) h1
      have hhas : has s.1.kind = hasN (enum MAX b 0).1 := by unfold has; rw [hk, Int.toNat_natCast]
      constructor
      · unfold check
        rw [hhas, h3, h4, if_neg (by simp [hh]), if_neg (by simp)]
      · unfold enc
        rw [hhas, hk, Int.toNat_natCast, ← h2]
        exact h5.symm
end Go.Proofs.Ms
