/- Messages, plain: what a payload is read as, what a message is written as, whether it is right; conditions: none beyond their hypotheses. Messages, plain: what is written is read as it was; how long it is; the document's test; conditions: none beyond their hypotheses. -/
import Derived.Test.YthhhiiagppckhaaGreatDoorMgSl
set_option linter.unusedSimpArgs false
set_option linter.unusedVariables false
section
namespace Go.Proofs.Ms
open Go.Proofs.Gr
set_option linter.unusedVariables false
structure Rw where
  path : List UInt8
  kind : Int
  version : Nat
  stamp : Nat
  size : Int
deriving DecidableEq
structure Msg where
  kind : Int
  session : Nat
  n : Nat
  proto : Int
  path : List UInt8
  what : Int
  version : Nat
  attempt : Nat
  stamp : Nat
  offset : Int
  total : Int
  size : Int
  code : Int
  flag : Bool
  data : List UInt8
  rows : List Rw
deriving DecidableEq
def zero : Msg := ⟨0, 0, 0, 0, [], 0, 0, 0, 0, 0, 0, 0, 0, false, [], []⟩
def MAX : Nat := 18446744073709551615
/-- what a kind names -/
def hasN : Nat → List UInt8
  | 1 => [112, 115]
  | 2 => [112, 115, 102]
  | 3 => [115, 110, 80]
  | 4 => [110, 102, 114]
  | 5 => [115, 110, 80, 118, 111]
  | 6 => [110, 119, 84, 111, 100]
  | 7 => [115, 110, 80, 119, 118, 84, 111, 100]
  | 8 => [115, 110, 80, 102]
  | 9 => [115, 110, 80, 97, 118, 116, 111, 102]
  | 10 => [115, 110, 80, 97, 119, 118, 116, 84, 122, 102]
  | 11 => [115, 110, 97, 111, 100]
  | 12 => [115, 110, 97]
  | 13 => [115, 110, 80, 97, 118, 116]
  | 14 => [115, 110]
  | 15 => [110, 111, 102]
  | 16 => [110, 99]
  | _ => []
def has (k : Int) : List UInt8 := hasN k.toNat
def alpha : List UInt8 := [112, 115, 110, 102, 80, 119, 118, 97, 116, 111, 84, 122, 99, 100, 114]
theorem hasN_big (k : Nat) (h : 16 < k) : hasN k = [] := by
  unfold hasN; split <;> first | omega | rfl
theorem hasN_alpha (k : Nat) : (∀ c ∈ hasN k, c ∈ alpha) ∧ (hasN k).Nodup := by
  by_cases h : 16 < k
  · rw [hasN_big k h]; simp
  · have : ∀ k : Fin 17, (∀ c ∈ hasN k.1, c ∈ alpha) ∧ (hasN k.1).Nodup := by decide
    exact this ⟨k, by omega⟩
/-- a row is read -/
def drow (b : List UInt8) (f : Nat) : Rw × List UInt8 × Nat :=
  let r1 := etext 96 b f
  let r2 := enum 2 r1.2.1 r1.2.2
  let r3 := enum MAX r2.2.1 r2.2.2
  let r4 := enum MAX r3.2.1 r3.2.2
  let r5 := enum 4096 r4.2.1 r4.2.2
  (⟨r1.1, r2.1, r3.1, r4.1, r5.1⟩, r5.2)
def drows : Nat → List UInt8 → Nat → List Rw × List UInt8 × Nat
  | 0, b, f => ([], b, f)
  | n + 1, b, f => if f = 0 then ((drow b f).1 :: (drows n (drow b f).2.1 (drow b f).2.2).1, (drows n (drow b f).2.1 (drow b f).2.2).2) else ([], b, f)
def rowsP (b : List UInt8) (f : Nat) : List Rw × List UInt8 × Nat := drows (enum 8 b f).1 (enum 8 b f).2.1 (enum 8 b f).2.2
abbrev St := Msg × List UInt8 × Nat
/-- what a letter names is read -/
def step (c : UInt8) (s : St) : St :=
  if c = 112 then ({s.1 with proto := (enum 255 s.2.1 s.2.2).1}, (enum 255 s.2.1 s.2.2).2)
  else if c = 119 then ({s.1 with what := (enum 2 s.2.1 s.2.2).1}, (enum 2 s.2.1 s.2.2).2)
  else if c = 111 then ({s.1 with offset := (enum 8300 s.2.1 s.2.2).1}, (enum 8300 s.2.1 s.2.2).2)
  else if c = 84 then ({s.1 with total := (enum 8300 s.2.1 s.2.2).1}, (enum 8300 s.2.1 s.2.2).2)
  else if c = 122 then ({s.1 with size := (enum 4096 s.2.1 s.2.2).1}, (enum 4096 s.2.1 s.2.2).2)
  else if c = 115 then ({s.1 with session := (enum MAX s.2.1 s.2.2).1}, (enum MAX s.2.1 s.2.2).2)
  else if c = 110 then ({s.1 with n := (enum MAX s.2.1 s.2.2).1}, (enum MAX s.2.1 s.2.2).2)
  else if c = 118 then ({s.1 with version := (enum MAX s.2.1 s.2.2).1}, (enum MAX s.2.1 s.2.2).2)
  else if c = 97 then ({s.1 with attempt := (enum MAX s.2.1 s.2.2).1}, (enum MAX s.2.1 s.2.2).2)
  else if c = 116 then ({s.1 with stamp := (enum MAX s.2.1 s.2.2).1}, (enum MAX s.2.1 s.2.2).2)
  else if c = 102 then ({s.1 with flag := decide ((enum 1 s.2.1 s.2.2).1 = 1)}, (enum 1 s.2.1 s.2.2).2)
  else if c = 80 then ({s.1 with path := (etext 96 s.2.1 s.2.2).1}, (etext 96 s.2.1 s.2.2).2)
  else if c = 99 then ({s.1 with code := (enum 99 s.2.1 s.2.2).1}, (enum 99 s.2.1 s.2.2).2)
  else if c = 100 then ({s.1 with data := (etext 200 s.2.1 s.2.2).1}, (etext 200 s.2.1 s.2.2).2)
  else ({s.1 with rows := (rowsP s.2.1 s.2.2).1}, (rowsP s.2.1 s.2.2).2)
def steps (l : List UInt8) (s : St) : St := l.foldl (fun s c => step c s) s
theorem steps_nil (s : St) : steps [] s = s := rfl
theorem steps_cons (c : UInt8) (l : List UInt8) (s : St) : steps (c :: l) s = steps l (step c s) := rfl
theorem steps_take (l : List UInt8) (k : Nat) (c : UInt8) (s : St) (h : l[k]? = some c) : steps (l.take (k + 1)) s = step c (steps (l.take k) s) := by
  rw [List.take_add_one, h]; simp [steps, List.foldl_append]
def close (b : List UInt8) (f : Nat) : Nat := if f ≠ 0 then f else if 0 < b.length then 12 else 0
def readP (b : List UInt8) : Msg × Nat :=
  let r := enum MAX b 0
  if hasN r.1 = [] then (zero, close (efail 2 r.2.1 r.2.2).1 (efail 2 r.2.1 r.2.2).2) else
  let s := steps (hasN r.1) ({zero with kind := r.1}, r.2)
  if close s.2.1 s.2.2 ≠ 0 then (zero, close s.2.1 s.2.2) else (s.1, 0)
/-- a row's bytes -/
def rowB (x : Rw) : List UInt8 := (numB x.path.length ++ x.path) ++ (numB x.kind.toNat ++ (numB x.version ++ (numB x.stamp ++ numB x.size.toNat)))
def part (c : UInt8) (m : Msg) : List UInt8 :=
  if c = 112 then numB m.proto.toNat
  else if c = 119 then numB m.what.toNat
  else if c = 111 then numB m.offset.toNat
  else if c = 84 then numB m.total.toNat
  else if c = 122 then numB m.size.toNat
  else if c = 115 then numB m.session
  else if c = 110 then numB m.n
  else if c = 118 then numB m.version
  else if c = 97 then numB m.attempt
  else if c = 116 then numB m.stamp
  else if c = 102 then numB (if m.flag = true then 1 else 0)
  else if c = 80 then numB m.path.length ++ m.path
  else if c = 99 then numB m.code.toNat
  else if c = 100 then numB m.data.length ++ m.data
  else numB m.rows.length ++ m.rows.flatMap rowB
def enc (m : Msg) : List UInt8 := numB m.kind.toNat ++ (has m.kind).flatMap fun c => part c m
def inb (x most : Int) : Bool := decide (0 ≤ x ∧ x ≤ most)
def bnd (c : UInt8) (m : Msg) : Bool :=
  if c = 112 then inb m.proto 255
  else if c = 119 then inb m.what 2
  else if c = 111 then inb m.offset 8300
  else if c = 84 then inb m.total 8300
  else if c = 122 then inb m.size 4096
  else if c = 99 then inb m.code 99
  else if c = 114 then m.rows.all fun x => inb x.kind 2 && inb x.size 4096
  else true
def len (c : UInt8) (m : Msg) : Bool :=
  if c = 80 then decide (m.path.length ≤ 96)
  else if c = 100 then decide (m.data.length ≤ 200)
  else if c = 114 then decide (m.rows.length ≤ 8) && m.rows.all fun x => decide (x.path.length ≤ 96)
  else true
def check (m : Msg) : Nat := if has m.kind = [] ∨ (has m.kind).all (fun c => bnd c m) = false then 2 else if (has m.kind).all (fun c => len c m) = false then 13 else 0

theorem enum_back {most : Nat} {b : List UInt8} {f : Nat} (h : (enum most b f).2.2 = 0) : f = 0 ∧ b = numB (enum most b f).1 ++ (enum most b f).2.1 ∧ (enum most b f).1 ≤ most := by
  obtain ⟨n, b', f', hE⟩ : ∃ n b' f', enum most b f = (n, b', f') := ⟨_, _, _, rfl⟩
  rw [hE] at h ⊢
  simp only at h ⊢
  subst h
  obtain rfl := enum_ok0 hE
  exact ⟨rfl, enum_bytes hE⟩
theorem etext_back {most : Nat} {b : List UInt8} {f : Nat} (h : (etext most b f).2.2 = 0) : f = 0 ∧ b = (numB (etext most b f).1.length ++ (etext most b f).1) ++ (etext most b f).2.1 ∧ (etext most b f).1.length ≤ most := by
  have hle := etext_len most b f
  obtain ⟨d, b', f', hE⟩ : ∃ d b' f', etext most b f = (d, b', f') := ⟨_, _, _, rfl⟩
  rw [hE] at h hle ⊢
  simp only at h hle ⊢
  subst h
  obtain ⟨n, b1, h1, hn, rfl, rfl⟩ := etext_ok0 hE
  obtain rfl := enum_ok0 h1
  obtain ⟨rfl, _⟩ := enum_bytes h1
  refine ⟨rfl, ?_, hle⟩
  rw [List.length_take, Nat.min_eq_left hn, List.append_assoc, List.take_append_drop]
def rowOk (x : Rw) : Prop := (inb x.kind 2 && inb x.size 4096) = true ∧ x.path.length ≤ 96
theorem drow_back {b : List UInt8} {f : Nat} (h : (drow b f).2.2 = 0) : f = 0 ∧ b = rowB (drow b f).1 ++ (drow b f).2.1 ∧ rowOk (drow b f).1 := by
  unfold drow at h ⊢
  simp only at h ⊢
  obtain ⟨h4, e5, l5⟩ := enum_back h
  obtain ⟨h3, e4, l4⟩ := enum_back h4
  obtain ⟨h2, e3, l3⟩ := enum_back h3
  obtain ⟨h1, e2, l2⟩ := enum_back h2
  obtain ⟨h0, e1, l1⟩ := etext_back h1
  refine ⟨h0, ?_, ?_, l1⟩
  · unfold rowB
    rw [List.append_assoc] at e1
    simp only [Int.toNat_natCast, List.append_assoc]
    rw [← e5, ← e4, ← e3, ← e2]
    exact e1
  · simp [inb]; omega
theorem drows_back : ∀ (n : Nat) (b : List UInt8) (f : Nat), (drows n b f).2.2 = 0 → f = 0 ∧ b = (drows n b f).1.flatMap rowB ++ (drows n b f).2.1 ∧ (drows n b f).1.length = n ∧ ∀ x ∈ (drows n b f).1, rowOk x
  | 0, b, f, h => ⟨h, by simp [drows], rfl, by simp [drows]⟩
  | n + 1, b, f, h => by
    unfold drows at h ⊢
    by_cases hf : f = 0
    · rw [if_pos hf] at h ⊢
      obtain ⟨h1, e1, l1, r1⟩ := drows_back n _ _ h
      obtain ⟨h2, e2, r2⟩ := drow_back h1
      refine ⟨h2, ?_, by simp [l1], ?_⟩
      · simp only [List.flatMap_cons, List.append_assoc]
        rw [← e1]; exact e2
      · intro x hx
        rcases List.mem_cons.1 hx with rfl | hx
        · exact r2
        · exact r1 x hx
    · rw [if_neg hf] at h; exact absurd h hf
theorem rowsP_back {b : List UInt8} {f : Nat} (h : (rowsP b f).2.2 = 0) : f = 0 ∧ b = (numB (rowsP b f).1.length ++ (rowsP b f).1.flatMap rowB) ++ (rowsP b f).2.1 ∧ (rowsP b f).1.length ≤ 8 ∧ ∀ x ∈ (rowsP b f).1, rowOk x := by
  obtain ⟨h1, e1, l1, r1⟩ := drows_back _ _ _ h
  obtain ⟨h2, e2, l2⟩ := enum_back h1
  refine ⟨h2, ?_, by unfold rowsP; omega, r1⟩
  unfold rowsP
  rw [l1, List.append_assoc, ← e1]
  exact e2
theorem inb_nat {n most : Nat} (h : n ≤ most) : inb (n : Int) (most : Int) = true := by unfold inb; rw [decide_eq_true_eq]; omega
/-- what is read of a letter is its part, and right -/
theorem step_back (c : UInt8) (hc : c ∈ alpha) (s : St) (h : (step c s).2.2 = 0) : s.2.2 = 0 ∧ s.2.1 = part c (step c s).1 ++ (step c s).2.1 ∧ bnd c (step c s).1 = true ∧ len c (step c s).1 = true := by
  obtain ⟨m, b, f⟩ := s
  simp only [alpha, List.mem_cons, List.not_mem_nil, or_false] at hc
  rcases hc with rfl | rfl | rfl | rfl | rfl | rfl | rfl | rfl | rfl | rfl | rfl | rfl | rfl | rfl | rfl
  case inr.inr.inr.inl =>
    obtain ⟨h0, e, l⟩ := enum_back (most := 1) h
    refine ⟨h0, ?_, rfl, rfl⟩
    have : numB (if decide ((enum 1 b f).1 = 1) = true then 1 else 0) = numB (enum 1 b f).1 := by
      congr 1
      by_cases h1 : (enum 1 b f).1 = 1
      · simp [h1]
      · have : (enum 1 b f).1 = 0 := by simp only at l; omega
        simp [this]
    show b = numB (if decide ((enum 1 b f).1 = 1) = true then 1 else 0) ++ (enum 1 b f).2.1
    rw [this]; exact e
  case inr.inr.inr.inr.inl =>
    obtain ⟨h0, e, l⟩ := etext_back (most := 96) h
    exact ⟨h0, e, rfl, decide_eq_true l⟩
  case inr.inr.inr.inr.inr.inr.inr.inr.inr.inr.inr.inr.inr.inl =>
    obtain ⟨h0, e, l⟩ := etext_back (most := 200) h
    exact ⟨h0, e, rfl, decide_eq_true l⟩
  case inr.inr.inr.inr.inr.inr.inr.inr.inr.inr.inr.inr.inr.inr =>
    obtain ⟨h0, e, l, r⟩ := rowsP_back h
    refine ⟨h0, e, ?_, ?_⟩
    · show (rowsP b f).1.all _ = true
      rw [List.all_eq_true]; exact fun x hx => (r x hx).1
    · show (decide ((rowsP b f).1.length ≤ 8) && (rowsP b f).1.all _) = true
      rw [Bool.and_eq_true, List.all_eq_true]; exact ⟨by simpa using l, fun x hx => by simpa using (r x hx).2⟩
  all_goals
    obtain ⟨h0, e, l⟩ := enum_back h
    refine ⟨h0, e, ?_, rfl⟩
    first
      | rfl
      | exact inb_nat l
theorem ite_kind {p : Prop} [Decidable p] {a b : St} {k : Int} (h1 : a.1.kind = k) (h2 : b.1.kind = k) : (if p then a else b).1.kind = k := by
  split
  · exact h1
  · exact h2
theorem step_kind (c : UInt8) (s : St) : (step c s).1.kind = s.1.kind := by
  unfold step
  repeat (first | rfl | refine ite_kind rfl ?_)
theorem step_other (c d : UInt8) (hc : c ∈ alpha) (hd : d ∈ alpha) (hne : d ≠ c) (s : St) : part d (step c s).1 = part d s.1 ∧ bnd d (step c s).1 = bnd d s.1 ∧ len d (step c s).1 = len d s.1 := by
  simp only [alpha, List.mem_cons, List.not_mem_nil, or_false] at hc hd
  rcases hc with rfl | rfl | rfl | rfl | rfl | rfl | rfl | rfl | rfl | rfl | rfl | rfl | rfl | rfl | rfl <;>
  rcases hd with rfl | rfl | rfl | rfl | rfl | rfl | rfl | rfl | rfl | rfl | rfl | rfl | rfl | rfl | rfl <;>
  first
    | exact absurd rfl hne
    | exact ⟨rfl, rfl, rfl⟩
theorem steps_other (d : UInt8) (hd : d ∈ alpha) : ∀ (l : List UInt8) (s : St), (∀ c ∈ l, c ∈ alpha) → d ∉ l → part d (steps l s).1 = part d s.1 ∧ bnd d (steps l s).1 = bnd d s.1 ∧ len d (steps l s).1 = len d s.1
  | [], s, _, _ => ⟨rfl, rfl, rfl⟩
  | c :: l, s, ha, hn => by
    obtain ⟨h1, h2, h3⟩ := steps_other d hd l (step c s) (fun x hx => ha x (List.mem_cons_of_mem _ hx)) (fun h => hn (List.mem_cons_of_mem _ h))
    obtain ⟨k1, k2, k3⟩ := step_other c d (ha c List.mem_cons_self) hd (fun e => hn (by rw [e]; exact List.mem_cons_self)) s
    rw [steps_cons]
    exact ⟨h1.trans k1, h2.trans k2, h3.trans k3⟩
theorem steps_kind : ∀ (l : List UInt8) (s : St), (steps l s).1.kind = s.1.kind
  | [], s => rfl
  | c :: l, s => by rw [steps_cons, steps_kind l, step_kind]
theorem steps_back : ∀ (l : List UInt8) (s : St), (∀ c ∈ l, c ∈ alpha) → l.Nodup → (steps l s).2.2 = 0 → s.2.2 = 0 ∧ s.2.1 = (l.flatMap fun c => part c (steps l s).1) ++ (steps l s).2.1 ∧ l.all (fun c => bnd c (steps l s).1) = true ∧ l.all (fun c => len c (steps l s).1) = true
  | [], s, _, _, h => ⟨h, by simp [steps_nil], rfl, rfl⟩
  | c :: l, s, ha, hn, h => by
    rw [steps_cons] at h ⊢
    have hc := ha c List.mem_cons_self
    have hl : ∀ x ∈ l, x ∈ alpha := fun x hx => ha x (List.mem_cons_of_mem _ hx)
    obtain ⟨hcn, hln⟩ := List.nodup_cons.1 hn
    obtain ⟨h1, e1, b1, l1⟩ := steps_back l (step c s) hl hln h
    obtain ⟨h2, e2, b2, l2⟩ := step_back c hc s h1
    obtain ⟨o1, o2, o3⟩ := steps_other c hc l (step c s) hl hcn
    refine ⟨h2, ?_, ?_, ?_⟩
    · rw [List.flatMap_cons, List.append_assoc, ← e1, o1]; exact e2
    · rw [List.all_cons, o2, b2, Bool.true_and]; exact b1
    · rw [List.all_cons, o3, l2, Bool.true_and]; exact l1
theorem close_ok {b : List UInt8} {f : Nat} (h : close b f = 0) : b = [] ∧ f = 0 := by
  unfold close at h
  split at h
  · rename_i h0; exact absurd h h0
  · rename_i h0
    split at h
    · exact absurd h (by decide)
    · rename_i h1
      exact ⟨List.eq_nil_of_length_eq_zero (by omega), by omega⟩
theorem close_bad {b : List UInt8} {f : Nat} : close (efail 2 b f).1 (efail 2 b f).2 ≠ 0 := by
  by_cases hf : f = 0
  · subst hf; rw [efail_new _ _ (by decide)]; decide
  · rw [efail_old _ _ _ hf]; unfold close; rw [if_pos hf]; exact hf
/-- a message that was read is right, and has just these bytes -/
theorem readP_back {b : List UInt8} (h : (readP b).2 = 0) : check (readP b).1 = 0 ∧ enc (readP b).1 = b := by
  unfold readP at h ⊢
  simp only at h ⊢
  by_cases hh : hasN (enum MAX b 0).1 = []
  · rw [if_pos hh] at h; exact absurd h close_bad
  · rw [if_neg hh] at h ⊢
    generalize hs : steps (hasN (enum MAX b 0).1) ({zero with kind := (enum MAX b 0).1}, (enum MAX b 0).2) = s at h ⊢
    by_cases hc : close s.2.1 s.2.2 ≠ 0
    · rw [if_pos hc] at h; exact absurd h hc
    · rw [if_neg hc] at h ⊢
      obtain ⟨e1, e2⟩ := close_ok (Decidable.not_not.1 hc)
      obtain ⟨ha, hn⟩ := hasN_alpha (enum MAX b 0).1
      have hk := steps_kind (hasN (enum MAX b 0).1) ({zero with kind := (enum MAX b 0).1}, (enum MAX b 0).2)
      have hb := steps_back (hasN (enum MAX b 0).1) ({zero with kind := (enum MAX b 0).1}, (enum MAX b 0).2) ha hn (by rw [hs]; exact e2)
      rw [hs] at hk hb
      simp only at hk hb ⊢
      obtain ⟨h1, h2, h3, h4⟩ := hb
      rw [show s.2.1 = [] from e1, List.append_nil] at h2
      obtain ⟨_, h5, _⟩ := enum_back (most := MAX) (b := b) (f := 0) h1
      have hhas : has s.1.kind = hasN (enum MAX b 0).1 := by unfold has; rw [hk, Int.toNat_natCast]
      constructor
      · unfold check
        rw [hhas, h3, h4, if_neg (by simp [hh]), if_neg (by simp)]
      · unfold enc
        rw [hhas, hk, Int.toNat_natCast, ← h2]
        exact h5.symm
end Go.Proofs.Ms
end

section
namespace Go.Proofs.Ms
open Go.Proofs.Gr
set_option linter.unusedVariables false
/-- a message gets what a letter names -/
def pstep (c : UInt8) (m x : Msg) : Msg :=
  if c = 112 then {x with proto := m.proto}
  else if c = 119 then {x with what := m.what}
  else if c = 111 then {x with offset := m.offset}
  else if c = 84 then {x with total := m.total}
  else if c = 122 then {x with size := m.size}
  else if c = 115 then {x with session := m.session}
  else if c = 110 then {x with n := m.n}
  else if c = 118 then {x with version := m.version}
  else if c = 97 then {x with attempt := m.attempt}
  else if c = 116 then {x with stamp := m.stamp}
  else if c = 102 then {x with flag := m.flag}
  else if c = 80 then {x with path := m.path}
  else if c = 99 then {x with code := m.code}
  else if c = 100 then {x with data := m.data}
  else {x with rows := m.rows}
def psteps (l : List UInt8) (m x : Msg) : Msg := l.foldl (fun x c => pstep c m x) x
theorem psteps_take (l : List UInt8) (k : Nat) (c : UInt8) (m x : Msg) (h : l[k]? = some c) : psteps (l.take (k + 1)) m x = pstep c m (psteps (l.take k) m x) := by
  rw [List.take_add_one, h]; simp [psteps, List.foldl_append]
/-- a message without what its kind does not name -/
def plain (m : Msg) : Msg := if has m.kind = [] then zero else psteps (has m.kind) m {zero with kind := m.kind}
/-- numbers that fit into 64 bits -/
def Wid (m : Msg) : Prop := m.session < 18446744073709551616 ∧ m.n < 18446744073709551616 ∧ m.version < 18446744073709551616 ∧ m.attempt < 18446744073709551616 ∧ m.stamp < 18446744073709551616 ∧
  ∀ x ∈ m.rows, x.version < 18446744073709551616 ∧ x.stamp < 18446744073709551616
theorem etext_fwd {most : Nat} (d r : List UInt8) (h : d.length ≤ most) (hd : d.length < 18446744073709551616) : etext most ((numB d.length ++ d) ++ r) 0 = (d, r, 0) := by
  have he : enum most ((numB d.length ++ d) ++ r) 0 = (d.length, d ++ r, 0) := by rw [List.append_assoc]; exact enum_numB _ hd h
  rw [etext_ok he rfl (by simp)]
  simp
theorem int_fwd {most : Nat} (x : Int) (r : List UInt8) (h : inb x most = true) (hm : most < 18446744073709551616) : enum most (numB x.toNat ++ r) 0 = (x.toNat, r, 0) ∧ ((x.toNat : Nat) : Int) = x := by
  unfold inb at h
  rw [decide_eq_true_eq] at h
  exact ⟨enum_numB _ (by omega) (by omega), by omega⟩
theorem MAX_fwd {x : Nat} (r : List UInt8) (h : x < 18446744073709551616) : enum MAX (numB x ++ r) 0 = (x, r, 0) := enum_numB _ h (by show x ≤ 18446744073709551615; omega)
theorem drow_fwd (x : Rw) (r : List UInt8) (h : rowOk x) (hv : x.version < 18446744073709551616) (hs : x.stamp < 18446744073709551616) : drow (rowB x ++ r) 0 = (x, r, 0) := by
  obtain ⟨h1, h2⟩ := h
  rw [Bool.and_eq_true] at h1
  have e1 := etext_fwd (most := 96) x.path (numB x.kind.toNat ++ (numB x.version ++ (numB x.stamp ++ (numB x.size.toNat ++ r)))) h2 (by omega)
  obtain ⟨e2, k2⟩ := int_fwd (most := 2) x.kind (numB x.version ++ (numB x.stamp ++ (numB x.size.toNat ++ r))) h1.1 (by decide)
  have e3 := MAX_fwd (numB x.stamp ++ (numB x.size.toNat ++ r)) hv
  have e4 := MAX_fwd (numB x.size.toNat ++ r) hs
  obtain ⟨e5, k5⟩ := int_fwd (most := 4096) x.size r h1.2 (by decide)
  have e0 : rowB x ++ r = (numB x.path.length ++ x.path) ++ (numB x.kind.toNat ++ (numB x.version ++ (numB x.stamp ++ (numB x.size.toNat ++ r)))) := by unfold rowB; simp only [List.append_assoc]
  unfold drow
  simp only
  rw [e0, e1]; simp only
  rw [e2]; simp only
  rw [e3]; simp only
  rw [e4]; simp only
  rw [e5]; simp only
  rw [k2, k5]
theorem drows_fwd : ∀ (l : List Rw) (r : List UInt8), (∀ x ∈ l, rowOk x ∧ x.version < 18446744073709551616 ∧ x.stamp < 18446744073709551616) → drows l.length (l.flatMap rowB ++ r) 0 = (l, r, 0)
  | [], r, _ => rfl
  | x :: l, r, h => by
    obtain ⟨h1, h2, h3⟩ := h x List.mem_cons_self
    have hi := drows_fwd l r fun y hy => h y (List.mem_cons_of_mem _ hy)
    rw [List.length_cons, drows, if_pos rfl, List.flatMap_cons, List.append_assoc, drow_fwd x _ h1 h2 h3]
    simp only
    rw [hi]
/-- what was written of a letter is read as it was -/
theorem step_fwd (c : UInt8) (hc : c ∈ alpha) (m x : Msg) (r : List UInt8) (hb : bnd c m = true) (hl : len c m = true) (hw : Wid m) : step c (x, part c m ++ r, 0) = (pstep c m x, r, 0) := by
  obtain ⟨w1, w2, w3, w4, w5, w6⟩ := hw
  simp only [alpha, List.mem_cons, List.not_mem_nil, or_false] at hc
  rcases hc with rfl | rfl | rfl | rfl | rfl | rfl | rfl | rfl | rfl | rfl | rfl | rfl | rfl | rfl | rfl
  · obtain ⟨e, k⟩ := int_fwd (most := 255) m.proto r hb (by decide)
    show ({x with proto := ((enum 255 (numB m.proto.toNat ++ r) 0).1 : Int)}, (enum 255 (numB m.proto.toNat ++ r) 0).2) = ({x with proto := m.proto}, r, 0)
    rw [e]; simp only; rw [k]
  · show ({x with session := (enum MAX (numB m.session ++ r) 0).1}, (enum MAX (numB m.session ++ r) 0).2) = ({x with session := m.session}, r, 0)
    rw [MAX_fwd r w1]
  · show ({x with n := (enum MAX (numB m.n ++ r) 0).1}, (enum MAX (numB m.n ++ r) 0).2) = ({x with n := m.n}, r, 0)
    rw [MAX_fwd r w2]
  · have e : enum 1 (numB (if m.flag = true then 1 else 0) ++ r) 0 = ((if m.flag = true then 1 else 0), r, 0) := enum_numB _ (by split <;> decide) (by split <;> decide)
    show ({x with flag := decide ((enum 1 (numB (if m.flag = true then 1 else 0) ++ r) 0).1 = 1)}, (enum 1 (numB (if m.flag = true then 1 else 0) ++ r) 0).2) = ({x with flag := m.flag}, r, 0)
    rw [e]; simp only
    cases m.flag <;> rfl
  · have hl' : m.path.length ≤ 96 := of_decide_eq_true hl
    show ({x with path := (etext 96 ((numB m.path.length ++ m.path) ++ r) 0).1}, (etext 96 ((numB m.path.length ++ m.path) ++ r) 0).2) = ({x with path := m.path}, r, 0)
    rw [etext_fwd m.path r hl' (by omega)]
  · obtain ⟨e, k⟩ := int_fwd (most := 2) m.what r hb (by decide)
    show ({x with what := ((enum 2 (numB m.what.toNat ++ r) 0).1 : Int)}, (enum 2 (numB m.what.toNat ++ r) 0).2) = ({x with what := m.what}, r, 0)
    rw [e]; simp only; rw [k]
  · show ({x with version := (enum MAX (numB m.version ++ r) 0).1}, (enum MAX (numB m.version ++ r) 0).2) = ({x with version := m.version}, r, 0)
    rw [MAX_fwd r w3]
  · show ({x with attempt := (enum MAX (numB m.attempt ++ r) 0).1}, (enum MAX (numB m.attempt ++ r) 0).2) = ({x with attempt := m.attempt}, r, 0)
    rw [MAX_fwd r w4]
  · show ({x with stamp := (enum MAX (numB m.stamp ++ r) 0).1}, (enum MAX (numB m.stamp ++ r) 0).2) = ({x with stamp := m.stamp}, r, 0)
    rw [MAX_fwd r w5]
  · obtain ⟨e, k⟩ := int_fwd (most := 8300) m.offset r hb (by decide)
    show ({x with offset := ((enum 8300 (numB m.offset.toNat ++ r) 0).1 : Int)}, (enum 8300 (numB m.offset.toNat ++ r) 0).2) = ({x with offset := m.offset}, r, 0)
    rw [e]; simp only; rw [k]
  · obtain ⟨e, k⟩ := int_fwd (most := 8300) m.total r hb (by decide)
    show ({x with total := ((enum 8300 (numB m.total.toNat ++ r) 0).1 : Int)}, (enum 8300 (numB m.total.toNat ++ r) 0).2) = ({x with total := m.total}, r, 0)
    rw [e]; simp only; rw [k]
  · obtain ⟨e, k⟩ := int_fwd (most := 4096) m.size r hb (by decide)
    show ({x with size := ((enum 4096 (numB m.size.toNat ++ r) 0).1 : Int)}, (enum 4096 (numB m.size.toNat ++ r) 0).2) = ({x with size := m.size}, r, 0)
    rw [e]; simp only; rw [k]
  · obtain ⟨e, k⟩ := int_fwd (most := 99) m.code r hb (by decide)
    show ({x with code := ((enum 99 (numB m.code.toNat ++ r) 0).1 : Int)}, (enum 99 (numB m.code.toNat ++ r) 0).2) = ({x with code := m.code}, r, 0)
    rw [e]; simp only; rw [k]
  · have hl' : m.data.length ≤ 200 := of_decide_eq_true hl
    show ({x with data := (etext 200 ((numB m.data.length ++ m.data) ++ r) 0).1}, (etext 200 ((numB m.data.length ++ m.data) ++ r) 0).2) = ({x with data := m.data}, r, 0)
    rw [etext_fwd m.data r hl' (by omega)]
  · have hb' : (m.rows.all fun x => inb x.kind 2 && inb x.size 4096) = true := hb
    have hl' : (decide (m.rows.length ≤ 8) && m.rows.all fun x => decide (x.path.length ≤ 96)) = true := hl
    rw [Bool.and_eq_true, decide_eq_true_eq, List.all_eq_true] at hl'
    rw [List.all_eq_true] at hb'
    have e : rowsP ((numB m.rows.length ++ m.rows.flatMap rowB) ++ r) 0 = (m.rows, r, 0) := by
      have e1 : enum 8 ((numB m.rows.length ++ m.rows.flatMap rowB) ++ r) 0 = (m.rows.length, m.rows.flatMap rowB ++ r, 0) := by rw [List.append_assoc]; exact enum_numB _ (by omega) hl'.1
      unfold rowsP
      rw [e1]; simp only
      exact drows_fwd m.rows r fun y hy => ⟨⟨hb' y hy, of_decide_eq_true (hl'.2 y hy)⟩, w6 y hy⟩
    show ({x with rows := (rowsP ((numB m.rows.length ++ m.rows.flatMap rowB) ++ r) 0).1}, (rowsP ((numB m.rows.length ++ m.rows.flatMap rowB) ++ r) 0).2) = ({x with rows := m.rows}, r, 0)
    rw [e]
theorem steps_fwd (m : Msg) (hw : Wid m) : ∀ (l : List UInt8) (x : Msg) (r : List UInt8), (∀ c ∈ l, c ∈ alpha ∧ bnd c m = true ∧ len c m = true) → steps l (x, (l.flatMap fun c => part c m) ++ r, 0) = (psteps l m x, r, 0)
  | [], x, r, _ => rfl
  | c :: l, x, r, h => by
    obtain ⟨h1, h2, h3⟩ := h c List.mem_cons_self
    rw [steps_cons, List.flatMap_cons, List.append_assoc, step_fwd c h1 m x _ h2 h3 hw]
    exact steps_fwd m hw l _ r fun y hy => h y (List.mem_cons_of_mem _ hy)
theorem check_facts {m : Msg} (h : check m = 0) : has m.kind ≠ [] ∧ ∀ c ∈ has m.kind, c ∈ alpha ∧ bnd c m = true ∧ len c m = true := by
  unfold check at h
  by_cases h1 : has m.kind = [] ∨ ((has m.kind).all fun c => bnd c m) = false
  · rw [if_pos h1] at h; cases h
  · rw [if_neg h1] at h
    by_cases h2 : ((has m.kind).all fun c => len c m) = false
    · rw [if_pos h2] at h; cases h
    · refine ⟨fun e => h1 (.inl e), fun c hc => ⟨(hasN_alpha _).1 c hc, ?_, ?_⟩⟩
      · have : ((has m.kind).all fun c => bnd c m) = true := by simpa using fun e => h1 (.inr e)
        exact List.all_eq_true.1 this c hc
      · have : ((has m.kind).all fun c => len c m) = true := by simpa using h2
        exact List.all_eq_true.1 this c hc
/-- a right message that was written is read as it was, but for what its kind does not name -/
theorem read_enc {m : Msg} (h : check m = 0) (hw : Wid m) : readP (enc m) = (plain m, 0) := by
  obtain ⟨h1, h2⟩ := check_facts h
  have hk : 0 ≤ m.kind ∧ m.kind.toNat ≤ 16 := by
    constructor
    · rcases Int.lt_or_le m.kind 0 with hh | hh
      · exfalso; apply h1; unfold has; rw [show m.kind.toNat = 0 by omega]; rfl
      · exact hh
    · rcases Nat.lt_or_ge 16 m.kind.toNat with hh | hh
      · exfalso; apply h1; unfold has; exact hasN_big _ hh
      · exact hh
  have e1 : enum MAX (enc m) 0 = (m.kind.toNat, (has m.kind).flatMap fun c => part c m, 0) := MAX_fwd _ (by omega)
  have e2 := steps_fwd m hw (has m.kind) {zero with kind := m.kind} [] h2
  rw [List.append_nil] at e2
  have e3 : ((m.kind.toNat : Nat) : Int) = m.kind := by omega
  unfold readP
  simp only
  rw [e1]
  simp only
  rw [show hasN m.kind.toNat = has m.kind from rfl, if_neg h1, e3, e2]
  simp only
  rw [if_neg (by unfold close; simp), plain, if_neg h1]
def pl (c : UInt8) : Nat := if c = 114 then 1137 else if c = 100 then 209 else if c = 80 then 105 else 9
theorem part_pl (c : UInt8) (hc : c ∈ alpha) (m : Msg) (hl : len c m = true) : (part c m).length ≤ pl c := by
  have h9 := fun n => (numB_len n).1
  simp only [alpha, List.mem_cons, List.not_mem_nil, or_false] at hc
  rcases hc with rfl | rfl | rfl | rfl | rfl | rfl | rfl | rfl | rfl | rfl | rfl | rfl | rfl | rfl | rfl
  case inr.inr.inr.inr.inl =>
    have : m.path.length ≤ 96 := of_decide_eq_true hl
    show (numB m.path.length ++ m.path).length ≤ 105
    rw [List.length_append]; have := h9 m.path.length; omega
  case inr.inr.inr.inr.inr.inr.inr.inr.inr.inr.inr.inr.inr.inl =>
    have : m.data.length ≤ 200 := of_decide_eq_true hl
    show (numB m.data.length ++ m.data).length ≤ 209
    rw [List.length_append]; have := h9 m.data.length; omega
  case inr.inr.inr.inr.inr.inr.inr.inr.inr.inr.inr.inr.inr.inr =>
    have hl' : (decide (m.rows.length ≤ 8) && m.rows.all fun x => decide (x.path.length ≤ 96)) = true := hl
    rw [Bool.and_eq_true, decide_eq_true_eq, List.all_eq_true] at hl'
    obtain ⟨h8, hp⟩ := hl'
    show (numB m.rows.length ++ m.rows.flatMap rowB).length ≤ 1137
    have hrow : ∀ l : List Rw, (∀ x ∈ l, decide (x.path.length ≤ 96) = true) → (l.flatMap rowB).length ≤ 141 * l.length := by
      intro l
      induction l with
      | nil => intro _; simp
      | cons x l ih =>
        intro h
        have h1 := of_decide_eq_true (h x List.mem_cons_self)
        have h2 := ih fun y hy => h y (List.mem_cons_of_mem _ hy)
        have a1 := h9 x.path.length
        have a2 := h9 x.kind.toNat
        have a3 := h9 x.version
        have a4 := h9 x.stamp
        have a5 := h9 x.size.toNat
        simp only [List.flatMap_cons, List.length_append, List.length_cons, rowB]
        omega
    rw [List.length_append]; have := h9 m.rows.length; have := hrow _ hp; omega
  all_goals exact h9 _
theorem parts_pl (m : Msg) : ∀ l : List UInt8, (∀ c ∈ l, (part c m).length ≤ pl c) → (l.flatMap fun c => part c m).length ≤ (l.map pl).sum
  | [], _ => by simp
  | c :: l, h => by
    have h1 := h c List.mem_cons_self
    have h2 := parts_pl m l fun y hy => h y (List.mem_cons_of_mem _ hy)
    simp only [List.flatMap_cons, List.length_append, List.map_cons, List.sum_cons]; omega
theorem has_pl (k : Nat) : ((hasN k).map pl).sum ≤ 1300 := by
  by_cases h : 16 < k
  · rw [hasN_big k h]; decide
  · have : ∀ k : Fin 17, ((hasN k.1).map pl).sum ≤ 1300 := by decide
    exact this ⟨k, by omega⟩
/-- a right message fits into a frame -/
theorem enc_len {m : Msg} (h : check m = 0) : (enc m).length ≤ 1400 := by
  obtain ⟨h1, h2⟩ := check_facts h
  have h3 := parts_pl m (has m.kind) fun c hc => part_pl c (h2 c hc).1 m (h2 c hc).2.2
  have h4 := has_pl m.kind.toNat
  have h5 := (numB_len m.kind.toNat).1
  unfold enc
  unfold has at h3 ⊢
  rw [List.length_append]; omega
/-- a letter that is named, a number out of its bounds -/
def outB (l : List UInt8) (c : UInt8) (x : Int) (most : Nat) : Bool := decide (c ∈ l) && !(inb x most)
/-- the document's test of the numbers -/
def refBad (l : List UInt8) (m : Msg) : Bool :=
  outB l 112 m.proto 255 || outB l 119 m.what 2 || outB l 111 m.offset 8300 || outB l 84 m.total 8300 || outB l 122 m.size 4096 || outB l 99 m.code 99
def rowOut (l : List UInt8) (x : Rw) : Bool := outB l 114 x.kind 2 || outB l 114 x.size 4096
def refLong (l : List UInt8) (m : Msg) : Bool := outB l 80 m.path.length 96 || outB l 100 m.data.length 200 || outB l 114 m.rows.length 8
def refCheck (m : Msg) : Nat := if has m.kind = [] ∨ refBad (has m.kind) m = true then 2 else if m.rows.any (rowOut (has m.kind)) = true then 2 else if refLong (has m.kind) m = true then 13 else if (m.rows.any fun x => outB (has m.kind) 114 x.path.length 96) = true then 13 else 0
theorem outB_len (l : List UInt8) (c : UInt8) (n most : Nat) : outB l c n most = (decide (c ∈ l) && decide (most < n)) := by
  unfold outB inb
  rw [Bool.eq_iff_iff]; simp
theorem all_bnd (l : List UInt8) (hl : ∀ c ∈ l, c ∈ alpha) (m : Msg) : (l.all fun c => bnd c m) = false ↔ refBad l m = true ∨ m.rows.any (rowOut l) = true := by
  rw [List.all_eq_false]
  constructor
  · rintro ⟨c, hc, hb⟩
    have ha := hl c hc
    have hb' : bnd c m = false := by simpa using hb
    simp only [alpha, List.mem_cons, List.not_mem_nil, or_false] at ha
    rcases ha with rfl | rfl | rfl | rfl | rfl | rfl | rfl | rfl | rfl | rfl | rfl | rfl | rfl | rfl | rfl
    case inr.inr.inr.inr.inr.inr.inr.inr.inr.inr.inr.inr.inr.inr =>
      right
      have : (m.rows.all fun x => inb x.kind 2 && inb x.size 4096) = false := hb'
      rw [List.all_eq_false] at this
      obtain ⟨x, hx, hxb⟩ := this
      rw [List.any_eq_true]
      refine ⟨x, hx, ?_⟩
      unfold rowOut outB
      simp only [hc, decide_true, Bool.true_and]
      cases h1 : inb x.kind 2 <;> cases h2 : inb x.size 4096 <;> simp_all
    all_goals first
      | (exfalso; exact absurd (show bnd _ m = true from rfl) (by rw [hb']; decide))
      | (left
         unfold refBad outB
         simp only [hc, decide_true, Bool.true_and, Bool.or_eq_true]
         first
           | exact .inl (.inl (.inl (.inl (.inl (by rw [show inb m.proto (255 : Nat) = false from hb']; rfl)))))
           | exact .inl (.inl (.inl (.inl (.inr (by rw [show inb m.what (2 : Nat) = false from hb']; rfl)))))
           | exact .inl (.inl (.inl (.inr (by rw [show inb m.offset (8300 : Nat) = false from hb']; rfl))))
           | exact .inl (.inl (.inr (by rw [show inb m.total (8300 : Nat) = false from hb']; rfl)))
           | exact .inl (.inr (by rw [show inb m.size (4096 : Nat) = false from hb']; rfl))
           | exact .inr (by rw [show inb m.code (99 : Nat) = false from hb']; rfl))
  · have key : ∀ (c : UInt8) (x : Int) (most : Nat), outB l c x most = true → bnd c m = inb x most → ∃ c ∈ l, ¬ bnd c m = true := fun c x most h e => by
      unfold outB at h
      rw [Bool.and_eq_true, decide_eq_true_eq] at h
      refine ⟨c, h.1, ?_⟩
      rw [e]; intro h2; rw [h2] at h; exact absurd h.2 (by decide)
    rintro (h | h)
    · unfold refBad at h
      simp only [Bool.or_eq_true] at h
      rcases h with ((((h | h) | h) | h) | h) | h
      · exact key 112 _ _ h rfl
      · exact key 119 _ _ h rfl
      · exact key 111 _ _ h rfl
      · exact key 84 _ _ h rfl
      · exact key 122 _ _ h rfl
      · exact key 99 _ _ h rfl
    · rw [List.any_eq_true] at h
      obtain ⟨x, hx, h⟩ := h
      unfold rowOut outB at h
      have hc : (114 : UInt8) ∈ l := by
        rw [Bool.or_eq_true, Bool.and_eq_true, Bool.and_eq_true, decide_eq_true_eq] at h
        rcases h with h | h <;> exact h.1
      refine ⟨114, hc, ?_⟩
      have : bnd 114 m = m.rows.all fun x => inb x.kind 2 && inb x.size 4096 := rfl
      rw [this, List.all_eq_true]
      intro hall
      have := hall x hx
      rw [Bool.and_eq_true] at this
      have e1 : inb x.kind (2 : Nat) = true := this.1
      have e2 : inb x.size (4096 : Nat) = true := this.2
      rw [e1, e2] at h
      simp at h
theorem all_len (l : List UInt8) (hl : ∀ c ∈ l, c ∈ alpha) (m : Msg) : (l.all fun c => len c m) = false ↔ refLong l m = true ∨ (m.rows.any fun x => outB l 114 x.path.length 96) = true := by
  rw [List.all_eq_false]
  unfold refLong
  simp only [outB_len, Bool.or_eq_true, Bool.and_eq_true, decide_eq_true_eq, List.any_eq_true]
  constructor
  · rintro ⟨c, hc, hb⟩
    have ha := hl c hc
    simp only [alpha, List.mem_cons, List.not_mem_nil, or_false] at ha
    rcases ha with rfl | rfl | rfl | rfl | rfl | rfl | rfl | rfl | rfl | rfl | rfl | rfl | rfl | rfl | rfl
    case inr.inr.inr.inr.inl =>
      have : ¬ decide (m.path.length ≤ 96) = true := hb
      exact .inl (.inl (.inl ⟨hc, by simpa using this⟩))
    case inr.inr.inr.inr.inr.inr.inr.inr.inr.inr.inr.inr.inr.inl =>
      have : ¬ decide (m.data.length ≤ 200) = true := hb
      exact .inl (.inl (.inr ⟨hc, by simpa using this⟩))
    case inr.inr.inr.inr.inr.inr.inr.inr.inr.inr.inr.inr.inr.inr =>
      have : ¬ (decide (m.rows.length ≤ 8) && m.rows.all fun x => decide (x.path.length ≤ 96)) = true := hb
      rw [Bool.and_eq_true, decide_eq_true_eq, List.all_eq_true] at this
      by_cases h8 : m.rows.length ≤ 8
      · right
        have h2 : ¬ ∀ x ∈ m.rows, decide (x.path.length ≤ 96) = true := fun h => this ⟨h8, h⟩
        obtain ⟨x, hx⟩ := Classical.not_forall.1 h2
        obtain ⟨hx1, hx2⟩ := Classical.not_imp.1 hx
        exact ⟨x, hx1, hc, by simpa using hx2⟩
      · exact .inl (.inr ⟨hc, by omega⟩)
    all_goals exact absurd (show len _ m = true from rfl) hb
  · rintro (((⟨h1, h2⟩ | ⟨h1, h2⟩) | ⟨h1, h2⟩) | ⟨x, hx, h1, h2⟩)
    · exact ⟨80, h1, fun h => by have : m.path.length ≤ 96 := of_decide_eq_true h; omega⟩
    · exact ⟨100, h1, fun h => by have : m.data.length ≤ 200 := of_decide_eq_true h; omega⟩
    · exact ⟨114, h1, fun h => by
        have h' : (decide (m.rows.length ≤ 8) && m.rows.all fun x => decide (x.path.length ≤ 96)) = true := h
        rw [Bool.and_eq_true, decide_eq_true_eq] at h'
        omega⟩
    · exact ⟨114, h1, fun h => by
        have h' : (decide (m.rows.length ≤ 8) && m.rows.all fun x => decide (x.path.length ≤ 96)) = true := h
        rw [Bool.and_eq_true, List.all_eq_true] at h'
        have := of_decide_eq_true (h'.2 x hx); omega⟩
theorem refCheck_eq (m : Msg) : refCheck m = check m := by
  have ha : ∀ c ∈ has m.kind, c ∈ alpha := (hasN_alpha _).1
  have hb := all_bnd (has m.kind) ha m
  have hl := all_len (has m.kind) ha m
  unfold refCheck check
  by_cases h0 : has m.kind = []
  · rw [if_pos (.inl h0), if_pos (.inl h0)]
  · by_cases h1 : refBad (has m.kind) m = true
    · rw [if_pos (.inr h1), if_pos (.inr (hb.2 (.inl h1)))]
    · have hn1 : ¬ (has m.kind = [] ∨ refBad (has m.kind) m = true) := by
        rintro (h | h)
        · exact h0 h
        · exact h1 h
      rw [if_neg hn1]
      by_cases h2 : m.rows.any (rowOut (has m.kind)) = true
      · rw [if_pos h2, if_pos (.inr (hb.2 (.inr h2)))]
      · have hn : ¬ (has m.kind = [] ∨ ((has m.kind).all fun c => bnd c m) = false) := by
          rintro (h | h)
          · exact h0 h
          · exact (hb.1 h).elim h1 h2
        rw [if_neg h2, if_neg hn]
        by_cases h3 : refLong (has m.kind) m = true
        · rw [if_pos h3, if_pos (hl.2 (.inl h3))]
        · rw [if_neg h3]
          by_cases h4 : (m.rows.any fun x => outB (has m.kind) 114 x.path.length 96) = true
          · rw [if_pos h4, if_pos (hl.2 (.inr h4))]
          · rw [if_neg h4, if_neg (fun h => (hl.1 h).elim h3 h4)]
end Go.Proofs.Ms
end
