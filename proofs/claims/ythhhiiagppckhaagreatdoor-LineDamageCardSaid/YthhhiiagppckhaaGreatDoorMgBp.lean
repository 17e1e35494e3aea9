/- Errors as trees, plain: codes, steps, the first number; conditions: none. Faults and the errors that are made of them, plain; conditions: none. -/
set_option linter.unusedSimpArgs false
set_option linter.unusedVariables false
section
namespace Go.Proofs.Bp
set_option linter.unusedVariables false
inductive Er where
  | nil
  | code (c : Int)
  | one (op path : List UInt8) (e : Er)
  | two (a b : Er)
def Er.codes : Er → List Int
  | .nil => []
  | .code c => if c = 0 then [] else [c]
  | .one _ _ e => e.codes
  | .two a b => a.codes ++ b.codes
def Er.steps : Er → List (List UInt8)
  | .nil => []
  | .code _ => []
  | .one o p e => (o ++ 32 :: p) :: e.steps
  | .two a b => a.steps ++ b.steps
/-- the first number in it -/
def Er.first : Er → Option Int
  | .nil => none
  | .code c => some c
  | .one _ _ e => e.first
  | .two a b => a.first <|> b.first
/-- is a number in it? -/
def Er.has (c : Int) : Er → Bool
  | .nil => false
  | .code d => d == c
  | .one _ _ e => e.has c
  | .two a b => a.has c || b.has c
/-- as the program makes them: no number is 0, nil stands nowhere inside -/
def Er.ok : Er → Prop
  | .nil => False
  | .code c => c ≠ 0
  | .one _ _ e => e.ok
  | .two a b => a.ok ∧ b.ok
theorem Er.ok_codes : ∀ {e : Er}, e.ok → e.codes ≠ []
  | .code c, h => by simp only [Er.codes, if_neg (show ¬ c = 0 from h)]; simp
  | .one _ _ e, h => Er.ok_codes (e := e) h
  | .two a b, h => by
    simp only [Er.codes]
    intro e
    exact Er.ok_codes (e := a) h.1 (List.append_eq_nil_iff.1 e).1
theorem Er.ok_first : ∀ {e : Er}, e.ok → e.first = e.codes.head?
  | .code c, h => by simp only [Er.codes, if_neg (show ¬ c = 0 from h)]; rfl
  | .one _ _ e, h => Er.ok_first (e := e) h
  | .two a b, h => by
    have ha := Er.ok_first (e := a) h.1
    have hc := Er.ok_codes (e := a) h.1
    simp only [Er.codes, Er.first, ha]
    cases hl : a.codes with
    | nil => exact absurd hl hc
    | cons x r => rfl
theorem Er.ok_has (c : Int) : ∀ {e : Er}, e.ok → e.has c = e.codes.contains c
  | .code d, h => by
    simp only [Er.codes, if_neg (show ¬ d = 0 from h), Er.has, List.contains_cons, List.contains_nil, Bool.or_false]
    rw [Bool.eq_iff_iff, beq_iff_eq, beq_iff_eq]; exact eq_comm
  | .one _ _ e, h => Er.ok_has c (e := e) h
  | .two a b, h => by
    simp only [Er.codes, Er.has, Er.ok_has c h.1, Er.ok_has c h.2, List.contains_eq_mem]
    rw [Bool.eq_iff_iff]; simp
end Go.Proofs.Bp
end

section
namespace Go.Proofs.Bp
set_option linter.unusedVariables false
theorem rev_ind {α : Type} {P : List α → Prop} (h0 : P []) (h1 : ∀ l x, P l → P (l ++ [x])) (l : List α) : P l := by
  have : ∀ r : List α, P r.reverse := by
    intro r
    induction r with
    | nil => exact h0
    | cons x r ih => rw [List.reverse_cons]; exact h1 _ _ ih
  have h := this l.reverse
  rwa [List.reverse_reverse] at h
theorem p4 : ∀ n, 1 ≤ 3 ^ n
  | 0 => Nat.le_refl _
  | n + 1 => by have := p4 n; rw [Nat.pow_succ]; omega
structure Flt where
  kind : Int
  code : Int
  op : List UInt8
  path : List UInt8
  a : Int
  b : Int
def wrapE (t : Er) (o p : List UInt8) : Er := match t with
  | .nil => .nil
  | t => .one o p t
def bothE : Er → Er → Er
  | .nil, b => b
  | a, .nil => a
  | a, b => .two a b
def atE (out : List Er) (k : Int) : Er := if k < 0 then .nil else (out[k.toNat]?).getD .nil
def stepE (out : List Er) (x : Flt) : Er :=
  if x.kind = 0 then (if x.code = 0 then .nil else .one x.op x.path (.code x.code))
  else if x.kind = 1 then wrapE (atE out x.a) x.op x.path
  else bothE (atE out x.a) (atE out x.b)
def madeE (l : List Flt) : List Er := l.foldl (fun out x => out ++ [stepE out x]) []
theorem madeE_snoc (l : List Flt) (x : Flt) : madeE (l ++ [x]) = madeE l ++ [stepE (madeE l) x] := by
  unfold madeE; rw [List.foldl_append]; rfl
theorem madeE_len (l : List Flt) : (madeE l).length = l.length := by
  induction l using rev_ind with
  | h0 => rfl
  | h1 l x ih => rw [madeE_snoc, List.length_append, List.length_append, ih]; rfl
theorem madeE_take (l : List Flt) : ∀ k, k ≤ l.length → (madeE l).take k = madeE (l.take k) := by
  induction l using rev_ind with
  | h0 => intro k hk; simp at hk; subst hk; rfl
  | h1 l x ih =>
    intro k hk
    rw [madeE_snoc]
    rcases Nat.lt_or_ge l.length k with h | h
    · obtain rfl : k = (l ++ [x]).length := by simp at hk ⊢; omega
      rw [List.take_of_length_le (by simp [madeE_len]), List.take_of_length_le (Nat.le_refl _), madeE_snoc]
    · rw [List.take_append_of_le_length (by rw [madeE_len]; exact h), List.take_append_of_le_length h, ih k h]
theorem take_succ_get {α : Type} (l : List α) (k : Nat) (x : α) (h : l[k]? = some x) : l.take (k + 1) = l.take k ++ [x] := by
  rw [List.take_add_one, h]; rfl
theorem madeE_at (l : List Flt) (k : Nat) (x : Flt) (h : l[k]? = some x) : (madeE l)[k]? = some (stepE (madeE (l.take k)) x) := by
  have hk := (List.getElem?_eq_some_iff.1 h).1
  have h1 := madeE_take l (k + 1) hk
  rw [take_succ_get l k x h, madeE_snoc] at h1
  have h2 : ((madeE l).take (k + 1))[k]? = some (stepE (madeE (l.take k)) x) := by
    have e : (madeE (l.take k)).length = k := by rw [madeE_len, List.length_take]; omega
    rw [h1, List.getElem?_append_right (by omega), e]
    simp
  rwa [List.getElem?_take_of_lt (by omega)] at h2
theorem wrapE_codes (t : Er) (o p : List UInt8) : (wrapE t o p).codes = t.codes := by cases t <;> rfl
theorem bothE_codes (a b : Er) : (bothE a b).codes = a.codes ++ b.codes := by
  cases a with
  | nil => simp [bothE, Er.codes]
  | _ => cases b <;> simp [bothE, Er.codes]
theorem bothE_steps (a b : Er) : (bothE a b).steps = a.steps ++ b.steps := by
  cases a with
  | nil => simp [bothE, Er.steps]
  | _ => cases b <;> simp [bothE, Er.steps]
theorem wrapE_ok {t : Er} (h : t = .nil ∨ t.ok) (o p : List UInt8) : wrapE t o p = .nil ∨ (wrapE t o p).ok := by
  rcases h with rfl | h
  · exact .inl rfl
  · cases t with
    | nil => exact .inl rfl
    | _ => exact .inr h
theorem bothE_ok {a b : Er} (ha : a = .nil ∨ a.ok) (hb : b = .nil ∨ b.ok) : bothE a b = .nil ∨ (bothE a b).ok := by
  rcases ha with rfl | ha
  · exact hb
  · rcases hb with rfl | hb
    · right; cases a <;> exact ha
    · right
      cases a with
      | nil => exact ha.elim
      | _ => cases b with
        | nil => exact hb.elim
        | _ => exact ⟨ha, hb⟩
def esz : Er → Nat
  | .nil => 1
  | .code _ => 1
  | .one _ _ e => esz e + 1
  | .two a b => esz a + esz b + 1
def esh : Er → Prop
  | .nil => True
  | .code _ => True
  | .one o p e => o.length + p.length ≤ 100 ∧ esh e
  | .two a b => esh a ∧ esh b
/-- all numbers within bounds -/
def Bd : Er → Prop
  | .nil => True
  | .code c => -1000 ≤ c ∧ c ≤ 1000
  | .one _ _ e => Bd e
  | .two a b => Bd a ∧ Bd b
/-- an error as it is made: none or right, its texts short, its numbers small, not too great -/
structure Good (n : Nat) (t : Er) : Prop where
  ok : t = .nil ∨ t.ok
  lt : esh t
  bd : Bd t
  sz : esz t ≤ 3 ^ n
theorem Good.nil (n : Nat) : Good n .nil := ⟨.inl rfl, trivial, trivial, p4 n⟩
theorem Good.mono {n m : Nat} {t : Er} (h : Good n t) (hm : n ≤ m) : Good m t := ⟨h.ok, h.lt, h.bd, Nat.le_trans h.sz (Nat.pow_le_pow_right (by decide) hm)⟩
def FOk (x : Flt) : Prop := x.op.length + x.path.length ≤ 100 ∧ -1000 ≤ x.code ∧ x.code ≤ 1000
theorem Good.step {n : Nat} {out : List Er} {x : Flt} (h : ∀ t ∈ out, Good n t) (hx : FOk x) : Good (n + 1) (stepE out x) := by
  have hat : ∀ k, Good n (atE out k) := by
    intro k; unfold atE; split
    · exact Good.nil n
    · cases e : out[k.toNat]? with
      | none => exact Good.nil n
      | some t => exact h t (List.mem_of_getElem? e)
  have hp : 1 ≤ 3 ^ n := p4 n
  have hp2 : 3 ^ (n + 1) = 3 * 3 ^ n := by rw [Nat.pow_succ, Nat.mul_comm]
  unfold stepE
  split
  · split
    · exact Good.nil _
    · rename_i hc
      exact ⟨.inr hc, ⟨hx.1, trivial⟩, hx.2, by rw [hp2]; simp only [esz]; omega⟩
  · split
    · have ha := hat x.a
      refine ⟨wrapE_ok ha.ok _ _, ?_, ?_, ?_⟩
      · cases e : atE out x.a with
        | nil => exact trivial
        | _ => have := ha.lt; rw [e] at this; exact ⟨hx.1, this⟩
      · cases e : atE out x.a with
        | nil => exact trivial
        | _ => have := ha.bd; rw [e] at this; exact this
      · have := ha.sz
        cases e : atE out x.a with
        | nil => rw [hp2]; simp only [wrapE, esz]; omega
        | _ => rw [e] at this; rw [hp2]; simp only [wrapE, esz] at this ⊢; omega
    · have ha := hat x.a
      have hb := hat x.b
      refine ⟨bothE_ok ha.ok hb.ok, ?_, ?_, ?_⟩
      · have h1 := ha.lt; have h2 := hb.lt
        cases e : atE out x.a with
        | nil => exact h2
        | _ => cases e2 : atE out x.b with
          | nil => rw [e] at h1; exact h1
          | _ => rw [e] at h1; rw [e2] at h2; exact ⟨h1, h2⟩
      · have h1 := ha.bd; have h2 := hb.bd
        cases e : atE out x.a with
        | nil => exact h2
        | _ => cases e2 : atE out x.b with
          | nil => rw [e] at h1; exact h1
          | _ => rw [e] at h1; rw [e2] at h2; exact ⟨h1, h2⟩
      · have h1 := ha.sz; have h2 := hb.sz
        rw [hp2]
        cases e : atE out x.a with
        | nil => simp only [bothE]; omega
        | _ => cases e2 : atE out x.b with
          | nil => rw [e] at h1; simp only [bothE]; omega
          | _ => rw [e] at h1; rw [e2] at h2; simp only [bothE, esz] at h1 h2 ⊢; omega
theorem Good.made (l : List Flt) (h : ∀ x ∈ l, FOk x) : ∀ t ∈ madeE l, Good l.length t := by
  induction l using rev_ind with
  | h0 => intro t ht; cases ht
  | h1 l x ih =>
    intro t ht
    rw [madeE_snoc] at ht
    have ih2 := ih fun y hy => h y (List.mem_append_left _ hy)
    rw [List.length_append]
    rcases List.mem_append.1 ht with ht | ht
    · exact (ih2 t ht).mono (by omega)
    · rw [List.mem_singleton.1 ht]
      exact Good.step ih2 (h x (List.mem_append_right _ List.mem_cons_self))
end Go.Proofs.Bp
end
