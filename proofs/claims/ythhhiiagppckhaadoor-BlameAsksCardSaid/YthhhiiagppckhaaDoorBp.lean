/- Errors as trees, plain: codes, steps, the first number; conditions: none. -/
namespace Go.Proofs.Bp
set_option linter.unusedVariables false
inductive Er where
  | nil
  | code (c : Int)
  | one (op path : List UInt8) (e : Er)
  | two (a b : Er)
def Er.codes : Er → List Int
  | .nil => []
  | .code c => if c = 0 then [] else [c]
  | .one _ _ e => e.codes
  | .two a b => a.codes ++ b.codes
def Er.steps : Er → List (List UInt8)
  | .nil => []
  | .code _ => []
  | .one o p e => (o ++ 32 :: p) :: e.steps
  | .two a b => a.steps ++ b.steps
/-- the first number in it -/
def Er.first : Er → Option Int
  | .nil => none
  | .code c => some c
  | .one _ _ e => e.first
  | .two a b => a.first <|> b.first
/-- is a number in it? -/
def Er.has (c : Int) : Er → Bool
  | .nil => false
  | .code d => d == c
  | .one _ _ e => e.has c
  | .two a b => a.has c || b.has c
/-- as the program makes them: no number is 0, nil stands nowhere inside -/
def Er.ok : Er → Prop
  | .nil => False
  | .code c => c ≠ 0
  | .one _ _ e => e.ok
  | .two a b => a.ok ∧ b.ok
theorem Er.ok_codes : ∀ {e : Er}, e.ok → e.codes ≠ []
  | .code c, h => by simp only [Er.codes, if_neg (show ¬ c = 0 from h)]; simp
  | .one _ _ e, h => Er.ok_codes (e := e) h
  | .two a b, h => by
    simp only [Er.codes]
    intro e
    exact Er.ok_codes (e := a) h.1 (List.append_eq_nil_iff.1 e).1
theorem Er.ok_first : ∀ {e : Er}, e.ok → e.first = e.codes.head?
  | .code c, h => by simp only [Er.codes, if_neg (show ¬ c = 0 from h)]; rfl
  | .one _ _ e, h => Er.ok_first (e := e) h
  | .two a b, h => by
    have ha := Er.ok_first (e := a) h.1
    have hc := Er.ok_codes (e := a) h.1
    simp only [Er.codes, Er.first, ha]
    cases hl : a.codes with
    | nil => exact absurd hl hc
    | cons x r => rfl
theorem Er.ok_has (c : Int) : ∀ {e : Er}, e.ok → e.has c = e.codes.contains c
  | .code d, h => by
    simp only [Er.codes, if_neg (show ¬ d = 0 from h), Er.has, List.contains_cons, List.contains_nil, Bool.or_false]
    rw [Bool.eq_iff_iff, beq_iff_eq, beq_iff_eq]; exact eq_comm
  | .one _ _ e, h => Er.ok_has c (e := e) h
  | .two a b, h => by
    simp only [Er.codes, Er.has, Er.ok_has c h.1, Er.ok_has c h.2, List.contains_eq_mem]
    rw [Bool.eq_iff_iff]; simp
end Go.Proofs.Bp
