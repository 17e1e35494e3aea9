/- Messages, plain: what is written is read as it was; how long it is; the document's test; conditions: none beyond their hypotheses. -/
import Derived.Test.YthhhiiagppckhaaDoorMp
namespace Go.Proofs.Ms
open Go.Proofs.Gr
set_option linter.unusedVariables false
/-- a message gets what a letter names -/
def pstep (c : UInt8) (m x : Msg) : Msg :=
  if c = 112 then {x with proto := m.proto}
  else if c = 119 then {x with what := m.what}
  else if c = 111 then {x with offset := m.offset}
  else if c = 84 then {x with total := m.total}
  else if c = 122 then {x with size := m.size}
  else if c = 115 then {x with session := m.session}
  else if c = 110 then {x with n := m.n}
  else if c = 118 then {x with version := m.version}
  else if c = 97 then {x with attempt := m.attempt}
  else if c = 116 then {x with stamp := m.stamp}
  else if c = 102 then {x with flag := m.flag}
  else if c = 80 then {x with path := m.path}
  else if c = 99 then {x with code := m.code}
  else if c = 100 then {x with data := m.data}
  else {x with rows := m.rows}
def psteps (l : List UInt8) (m x : Msg) : Msg := l.foldl (fun x c => pstep c m x) x
theorem psteps_take (l : List UInt8) (k : Nat) (c : UInt8) (m x : Msg) (h : l[k]? = some c) : psteps (l.take (k + 1)) m x = pstep c m (psteps (l.take k) m x) := by
  rw [List.take_add_one, h]; simp [psteps, List.foldl_append]
/-- a message without what its kind does not name -/
def plain (m : Msg) : Msg := if has m.kind = [] then zero else psteps (has m.kind) m {zero with kind := m.kind}
/-- numbers that fit into 64 bits -/
def Wid (m : Msg) : Prop := m.session < 18446744073709551616 ∧ m.n < 18446744073709551616 ∧ m.version < 18446744073709551616 ∧ m.attempt < 18446744073709551616 ∧ m.stamp < 18446744073709551616 ∧
  ∀ x ∈ m.rows, x.version < 18446744073709551616 ∧ x.stamp < 18446744073709551616
theorem etext_fwd {most : Nat} (d r : List UInt8) (h : d.length ≤ most) (hd : d.length < 18446744073709551616) : etext most ((numB d.length ++ d) ++ r) 0 = (d, r, 0) := by
  have he : enum most ((numB d.length ++ d) ++ r) 0 = (d.length, d ++ r, 0) := by rw [List.append_assoc]; exact enum_numB _ hd h
  rw [etext_ok he rfl (by simp)]
  simp
theorem int_fwd {most : Nat} (x : Int) (r : List UInt8) (h : inb x most = true) (hm : most < 18446744073709551616) : enum most (numB x.toNat ++ r) 0 = (x.toNat, r, 0) ∧ ((x.toNat : Nat) : Int) = x := by
  unfold inb at h
  rw [decide_eq_true_eq] at h
  exact ⟨enum_numB _ (by omega) (by omega), by omega⟩
theorem MAX_fwd {x : Nat} (r : List UInt8) (h : x < 18446744073709551616) : enum MAX (numB x ++ r) 0 = (x, r, 0) := enum_numB _ h (by show x ≤ 18446744073709551615; omega)
theorem drow_fwd (x : Rw) (r : List UInt8) (h : rowOk x) (hv : x.version < 18446744073709551616) (hs : x.stamp < 18446744073709551616) : drow (rowB x ++ r) 0 = (x, r, 0) := by
  obtain ⟨h1, h2⟩ := h
  rw [Bool.and_eq_true] at h1
  have e1 := etext_fwd (most := 96) x.path (numB x.kind.toNat ++ (numB x.version ++ (numB x.stamp ++ (numB x.size.toNat ++ r)))) h2 (by omega)
  obtain ⟨e2, k2⟩ := int_fwd (most := 2) x.kind (numB x.version ++ (numB x.stamp ++ (numB x.size.toNat ++ r))) h1.1 (by decide)
  have e3 := MAX_fwd (numB x.stamp ++ (numB x.size.toNat ++ r)) hv
  have e4 := MAX_fwd (numB x.size.toNat ++ r) hs
  obtain ⟨e5, k5⟩ := int_fwd (most := 4096) x.size r h1.2 (by decide)
  have e0 : rowB x ++ r = (numB x.path.length ++ x.path) ++ (numB x.kind.toNat ++ (numB x.version ++ (numB x.stamp ++ (numB x.size.toNat ++ r)))) := by unfold rowB; simp only [List.append_assoc]
  unfold drow
  simp only
  rw [e0, e1]; simp only
  rw [e2]; simp only
  rw [e3]; simp only
  rw [e4]; simp only
  rw [e5]; simp only
  rw [k2, k5]
theorem drows_fwd : ∀ (l : List Rw) (r : List UInt8), (∀ x ∈ l, rowOk x ∧ x.version < 18446744073709551616 ∧ x.stamp < 18446744073709551616) → drows l.length (l.flatMap rowB ++ r) 0 = (l, r, 0)
  | [], r, _ => rfl
  | x :: l, r, h => by
    obtain ⟨h1, h2, h3⟩ := h x List.mem_cons_self
    have hi := drows_fwd l r fun y hy => h y (List.mem_cons_of_mem _ hy)
    rw [List.length_cons, drows, if_pos rfl, List.flatMap_cons, List.append_assoc, drow_fwd x _ h1 h2 h3]
    simp only
    rw [hi]
/-- what was written of a letter is read as it was -/
theorem step_fwd (c : UInt8) (hc : c ∈ alpha) (m x : Msg) (r : List UInt8) (hb : bnd c m = true) (hl : len c m = true) (hw : Wid m) : step c (x, part c m ++ r, 0) = (pstep c m x, r, 0) := by
  obtain ⟨w1, w2, w3, w4, w5, w6⟩ := hw
  simp only [alpha, List.mem_cons, List.not_mem_nil, or_false] at hc
  rcases hc with rfl | rfl | rfl | rfl | rfl | rfl | rfl | rfl | rfl | rfl | rfl | rfl | rfl | rfl | rfl
  · obtain ⟨e, k⟩ := int_fwd (most := 255) m.proto r hb (by decide)
    show ({x with proto := ((enum 255 (numB m.proto.toNat ++ r) 0).1 : Int)}, (enum 255 (numB m.proto.toNat ++ r) 0).2) = ({x with proto := m.proto}, r, 0)
    rw [e]; simp only; rw [k]
  · show ({x with session := (enum MAX (numB m.session ++ r) 0).1}, (enum MAX (numB m.session ++ r) 0).2) = ({x with session := m.session}, r, 0)
    rw [MAX_fwd r w1]
  · show ({x with n := (enum MAX (numB m.n ++ r) 0).1}, (enum MAX (numB m.n ++ r) 0).2) = ({x with n := m.n}, r, 0)
    rw [MAX_fwd r w2]
  · have e : enum 1 (numB (if m.flag = true then 1 else 0) ++ r) 0 = ((if m.flag = true then 1 else 0), r, 0) := enum_numB _ (by split <;> decide) (by split <;> decide)
    show ({x with flag := decide ((enum 1 (numB (if m.flag = true then 1 else 0) ++ r) 0).1 = 1)}, (enum 1 (numB (if m.flag = true then 1 else 0) ++ r) 0).2) = ({x with flag := m.flag}, r, 0)
    rw [e]; simp only
    cases m.flag <;> rfl
  · have hl' : m.path.length ≤ 96 := of_decide_eq_true hl
    show ({x with path := (etext 96 ((numB m.path.length ++ m.path) ++ r) 0).1}, (etext 96 ((numB m.path.length ++ m.path) ++ r) 0).2) = ({x with path := m.path}, r, 0)
    rw [etext_fwd m.path r hl' (by omega)]
  · obtain ⟨e, k⟩ := int_fwd (most := 2) m.what r hb (by decide)
    show ({x with what := ((enum 2 (numB m.what.toNat ++ r) 0).1 : Int)}, (enum 2 (numB m.what.toNat ++ r) 0).2) = ({x with what := m.what}, r, 0)
    rw [e]; simp only; rw [k]
  · show ({x with version := (enum MAX (numB m.version ++ r) 0).1}, (enum MAX (numB m.version ++ r) 0).2) = ({x with version := m.version}, r, 0)
    rw [MAX_fwd r w3]
  · show ({x with attempt := (enum MAX (numB m.attempt ++ r) 0).1}, (enum MAX (numB m.attempt ++ r) 0).2) = ({x with attempt := m.attempt}, r, 0)
    rw [MAX_fwd r w4]
  · show ({x with stamp := (enum MAX (numB m.stamp ++ r) 0).1}, (enum MAX (numB m.stamp ++ r) 0).2) = ({x with stamp := m.stamp}, r, 0)
    rw [MAX_fwd r w5]
  · obtain ⟨e, k⟩ := int_fwd (most := 8300) m.offset r hb (by decide)
    show ({x with offset := ((enum 8300 (numB m.offset.toNat ++ r) 0).1 : Int)}, (enum 8300 (numB m.offset.toNat ++ r) 0).2) = ({x with offset := m.offset}, r, 0)
    rw [e]; simp only; rw [k]
  · obtain ⟨e, k⟩ := int_fwd (most := 8300) m.total r hb (by decide)
    show ({x with total := ((enum 8300 (numB m.total.toNat ++ r) 0).1 : Int)}, (enum 8300 (numB m.total.toNat ++ r) 0).2) = ({x with total := m.total}, r, 0)
    rw [e]; simp only; rw [k]
  · obtain ⟨e, k⟩ := int_fwd (most := 4096) m.size r hb (by decide)
    show ({x with size := ((enum 4096 (numB m.size.toNat ++ r) 0).1 : Int)}, (enum 4096 (numB m.size.toNat ++ r) 0).2) = ({x with size := m.size}, r, 0)
    rw [e]; simp only; rw [k]
  · obtain ⟨e, k⟩ := int_fwd (most := 99) m.code r hb (by decide)
    show ({x with code := ((enum 99 (numB m.code.toNat ++ r) 0).1 : Int)}, (enum 99 (numB m.code.toNat ++ r) 0).2) = ({x with code := m.code}, r, 0)
    rw [e]; simp only; rw [k]
  · have hl' : m.data.length ≤ 200 := of_decide_eq_true hl
    show ({x with data := (etext 200 ((numB m.data.length ++ m.data) ++ r) 0).1}, (etext 200 ((numB m.data.length ++ m.data) ++ r) 0).2) = ({x with data := m.data}, r, 0)
    rw [etext_fwd m.data r hl' (by omega)]
  · have hb' : (m.rows.all fun x => inb x.kind 2 && inb x.size 4096) = true := hb
    have hl' : (decide (m.rows.length ≤ 8) && m.rows.all fun x => decide (x.path.length ≤ 96)) = true := hl
    rw [Bool.and_eq_true, decide_eq_true_eq, List.all_eq_true] at hl'
    rw [List.all_eq_true] at hb'
    have e : rowsP ((numB m.rows.length ++ m.rows.flatMap rowB) ++ r) 0 = (m.rows, r, 0) := by
      have e1 : enum 8 ((numB m.rows.length ++ m.rows.flatMap rowB) ++ r) 0 = (m.rows.length, m.rows.flatMap rowB ++ r, 0) := by rw [List.append_assoc]; exact enum_numB _ (by omega) hl'.1
      unfold rowsP
      rw [e1]; simp only
      exact drows_fwd m.rows r fun y hy => ⟨⟨hb' y hy, of_decide_eq_true (hl'.2 y hy)⟩, w6 y hy⟩
    show ({x with rows := (rowsP ((numB m.rows.length ++ m.rows.flatMap rowB) ++ r) 0).1}, (rowsP ((numB m.rows.length ++ m.rows.flatMap rowB) ++ r) 0).2) = ({x with rows := m.rows}, r, 0)
    rw [e]
theorem steps_fwd (m : Msg) (hw : Wid m) : ∀ (l : List UInt8) (x : Msg) (r : List UInt8), (∀ c ∈ l, c ∈ alpha ∧ bnd c m = true ∧ len c m = true) → steps l (x, (l.flatMap fun c => part c m) ++ r, 0) = (psteps l m x, r, 0)
  | [], x, r, _ => rfl
  | c :: l, x, r, h => by
    obtain ⟨h1, h2, h3⟩ := h c List.mem_cons_self
    rw [steps_cons, List.flatMap_cons, List.append_assoc, step_fwd c h1 m x _ h2 h3 hw]
    exact steps_fwd m hw l _ r fun y hy => h y (List.mem_cons_of_mem _ hy)
theorem check_facts {m : Msg} (h : check m = 0) : has m.kind ≠ [] ∧ ∀ c ∈ has m.kind, c ∈ alpha ∧ bnd c m = true ∧ len c m = true := by
  unfold check at h
  by_cases h1 : has m.kind = [] ∨ ((has m.kind).all fun c => bnd c m) = false
  · rw [if_pos h1] at h; cases h
  · rw [if_neg h1] at h
    by_cases h2 : ((has m.kind).all fun c => len c m) = false
    · rw [if_pos h2] at h; cases h
    · refine ⟨fun e => h1 (.inl e), fun c hc => ⟨(hasN_alpha _).1 c hc, ?_, ?_⟩⟩
      · have : ((has m.kind).all fun c => bnd c m) = true := by simpa using fun e => h1 (.inr e)
        exact List.all_eq_true.1 this c hc
      · have : ((has m.kind).all fun c => len c m) = true := by simpa using h2
        exact List.all_eq_true.1 this c hc
/-- a right message that was written is read as it was, but for what its kind does not name -/
theorem read_enc {m : Msg} (h : check m = 0) (hw : Wid m) : readP (enc m) = (plain m, 0) := by
  obtain ⟨h1, h2⟩ := check_facts h
  have hk : 0 ≤ m.kind ∧ m.kind.toNat ≤ 16 := by
    constructor
    · rcases Int.lt_or_le m.kind 0 with hh | hh
      · exfalso; apply h1; unfold has; rw [show m.kind.toNat = 0 by omega]; rfl
      · exact hh
    · rcases Nat.lt_or_ge 16 m.kind.toNat with hh | hh
      · exfalso; apply h1; unfold has; exact hasN_big _ hh
      · exact hh
  have e1 : enum MAX (enc m) 0 = (m.kind.toNat, (has m.kind).flatMap fun c => part c m, 0) := MAX_fwd _ (by omega)
  have e2 := steps_fwd m hw (has m.kind) {zero with kind := m.kind} [] h2
  rw [List.append_nil] at e2
  have e3 : ((m.kind.toNat : Nat) : Int) = m.kind := by omega
  unfold readP
  simp only
  rw [e1]
  simp only
  rw [show hasN m.kind.toNat = has m.kind from rfl, if_neg h1, e3, e2]
  simp only
  rw [if_neg (by unfold close; simp), plain, if_neg h1]
def pl (c : UInt8) : Nat := if c = 114 then 1137 else if c = 100 then 209 else if c = 80 then 105 else 9
theorem part_pl (c : UInt8) (hc : c ∈ alpha) (m : Msg) (hl : len c m = true) : (part c m).length ≤ pl c := by
  have h9 := fun n => (numB_len n).1
  simp only [alpha, List.mem_cons, List.not_mem_nil, or_false] at hc
  rcases hc with rfl | rfl | rfl | rfl | rfl | rfl | rfl | rfl | rfl | rfl | rfl | rfl | rfl | rfl | rfl
  case inr.inr.inr.inr.inl =>
    have : m.path.length ≤ 96 := of_decide_eq_true hl
    show (numB m.path.length ++ m.path).length ≤ 105
    rw [List.length_append]; have := h9 m.path.length; omega
  case inr.inr.inr.inr.inr.inr.inr.inr.inr.inr.inr.inr.inr.inl =>
    have : m.data.length ≤ 200 := of_decide_eq_true hl
    show (numB m.data.length ++ m.data).length ≤ 209
    rw [List.length_append]; have := h9 m.data.length; omega
  case inr.inr.inr.inr.inr.inr.inr.inr.inr.inr.inr.inr.inr.inr =>
    have hl' : (decide (m.rows.length ≤ 8) && m.rows.all fun x => decide (x.path.length ≤ 96)) = true := hl
    rw [Bool.and_eq_true, decide_eq_true_eq, List.all_eq_true] at hl'
    obtain ⟨h8, hp⟩ := hl'
    show (numB m.rows.length ++ m.rows.flatMap rowB).length ≤ 1137
    have hrow : ∀ l : List Rw, (∀ x ∈ l, decide (x.path.length ≤ 96) = true) → (l.flatMap rowB).length ≤ 141 * l.length := by
      intro l
      induction l with
      | nil => intro _; simp
      | cons x l ih =>
        intro h
        have h1 := of_decide_eq_true (h x List.mem_cons_self)
        have h2 := ih fun y hy => h y (List.mem_cons_of_mem _ hy)
        have a1 := h9 x.path.length
        have a2 := h9 x.kind.toNat
        have a3 := h9 x.version
        have a4 := h9 x.stamp
        have a5 := h9 x.size.toNat
        simp only [List.flatMap_cons, List.length_append, List.length_cons, rowB]
        omega
    rw [List.length_append]; have := h9 m.rows.length; have := hrow _ hp; omega
  all_goals exact h9 _
theorem parts_pl (m : Msg) : ∀ l : List UInt8, (∀ c ∈ l, (part c m).length ≤ pl c) → (l.flatMap fun c => part c m).length ≤ (l.map pl).sum
  | [], _ => by simp
  | c :: l, h => by
    have h1 := h c List.mem_cons_self
    have h2 := parts_pl m l fun y hy => h y (List.mem_cons_of_mem _ hy)
    simp only [List.flatMap_cons, List.length_append, List.map_cons, List.sum_cons]; omega
theorem has_pl (k : Nat) : ((hasN k).map pl).sum ≤ 1300 := by
  by_cases h : 16 < k
  · rw [hasN_big k h]; decide
  · have : ∀ k : Fin 17, ((hasN k.1).map pl).sum ≤ 1300 := by decide
    exact this ⟨k, by omega⟩
/-- a right message fits into a frame -/
theorem enc_len {m : Msg} (h : check m = 0) : (enc m).length ≤ 1400 := by
  obtain ⟨h1, h2⟩ := check_facts h
  have h3 := parts_pl m (has m.kind) fun c hc => part_pl c (h2 c hc).1 m (h2 c hc).2.2
  have h4 := has_pl m.kind.toNat
  have h5 := (numB_len m.kind.toNat).1
  unfold enc
  unfold has at h3 ⊢
  rw [List.length_append]; omega
/-- a letter that is named, a number out of its bounds -/
def outB (l : List UInt8) (c : UInt8) (x : Int) (most : Nat) : Bool := decide (c ∈ l) && !(inb x most)
/-- the document's test of the numbers -/
def refBad (l : List UInt8) (m : Msg) : Bool :=
  outB l 112 m.proto 255 || outB l 119 m.what 2 || outB l 111 m.offset 8300 || outB l 84 m.total 8300 || outB l 122 m.size 4096 || outB l 99 m.code 99
def rowOut (l : List UInt8) (x : Rw) : Bool := outB l 114 x.kind 2 || outB l 114 x.size 4096
def refLong (l : List UInt8) (m : Msg) : Bool := outB l 80 m.path.length 96 || outB l 100 m.data.length 200 || outB l 114 m.rows.length 8
def refCheck (m : Msg) : Nat := if has m.kind = [] ∨ refBad (has m.kind) m = true then 2 else if m.rows.any (rowOut (has m.kind)) = true then 2 else if refLong (has m.kind) m = true then 13 else if (m.rows.any fun x => outB (has m.kind) 114 x.path.length 96) = true then 13 else 0
theorem outB_len (l : List UInt8) (c : UInt8) (n most : Nat) : outB l c n most = (decide (c ∈ l) && decide (most < n)) := by
  unfold outB inb
  rw [Bool.eq_iff_iff]; simp
theorem all_bnd (l : List UInt8) (hl : ∀ c ∈ l, c ∈ alpha) (m : Msg) : (l.all fun c => bnd c m) = false ↔ refBad l m = true ∨ m.rows.any (rowOut l) = true := by
  rw [List.all_eq_false]
  constructor
  · rintro ⟨c, hc, hb⟩
    have ha := hl c hc
    have hb' : bnd c m = false := by simpa using hb
    simp only [alpha, List.mem_cons, List.not_mem_nil, or_false] at ha
    rcases ha with rfl | rfl | rfl | rfl | rfl | rfl | rfl | rfl | rfl | rfl | rfl | rfl | rfl | rfl | rfl
    case inr.inr.inr.inr.inr.inr.inr.inr.inr.inr.inr.inr.inr.inr =>
      right
      have : (m.rows.all fun x => inb x.kind 2 && inb x.size 4096) = false := hb'
      rw [List.all_eq_false] at this
      obtain ⟨x, hx, hxb⟩ := this
      rw [List.any_eq_true]
      refine ⟨x, hx, ?_⟩
      unfold rowOut outB
      simp only [hc, decide_true, Bool.true_and]
      cases h1 : inb x.kind 2 <;> cases h2 : inb x.size 4096 <;> simp_all
    all_goals first
      | (exfalso; exact absurd (show bnd _ m = true from rfl) (by rw [hb']; decide))
      | (left
         unfold refBad outB
         simp only [hc, decide_true, Bool.true_and, Bool.or_eq_true]
         first
           | exact .inl (.inl (.inl (.inl (.inl (by rw [show inb m.proto (255 : Nat) = false from hb']; rfl)))))
           | exact .inl (.inl (.inl (.inl (.inr (by rw [show inb m.what (2 : Nat) = false from hb']; rfl)))))
           | exact .inl (.inl (.inl (.inr (by rw [show inb m.offset (8300 : Nat) = false from hb']; rfl))))
           | exact .inl (.inl (.inr (by rw [show inb m.total (8300 : Nat) = false from hb']; rfl)))
           | exact .inl (.inr (by rw [show inb m.size (4096 : Nat) = false from hb']; rfl))
           | exact .inr (by rw [show inb m.code (99 : Nat) = false from hb']; rfl))
  · have key : ∀ (c : UInt8) (x : Int) (most : Nat), outB l c x most = true → bnd c m = inb x most → ∃ c ∈ l, ¬ bnd c m = true := fun c x most h e => by
      unfold outB at h
      rw [Bool.and_eq_true, decide_eq_true_eq] at h
      refine ⟨c, h.1, ?_⟩
      rw [e]; intro h2; rw [h2] at h; exact absurd h.2 (by decide)
    rintro (h | h)
    · unfold refBad at h
      simp only [Bool.or_eq_true] at h
      rcases h with ((((h | h) | h) | h) | h) | h
      · exact key 112 _ _ h rfl
      · exact key 119 _ _ h rfl
      · exact key 111 _ _ h rfl
      · exact key 84 _ _ h rfl
      · exact key 122 _ _ h rfl
      · exact key 99 _ _ h rfl
    · rw [List.any_eq_true] at h
      obtain ⟨x, hx, h⟩ := h
      unfold rowOut outB at h
      have hc : (114 : UInt8) ∈ l := by
        rw [Bool.or_eq_true, Bool.and_eq_true, Bool.and_eq_true, decide_eq_true_eq] at h
        rcases h with h | h <;> exact h.1
      refine ⟨114, hc, ?_⟩
      have : bnd 114 m = m.rows.all fun x => inb x.kind 2 && inb x.size 4096 := rfl
      rw [this, List.all_eq_true]
      intro hall
      have := hall x hx
      rw [Bool.and_eq_true] at this
      have e1 : inb x.kind (2 : Nat) = true := this.1
      have e2 : inb x.size (4096 : Nat) = true := this.2
      rw [e1, e2] at h
      simp at h
theorem all_len (l : List UInt8) (hl : ∀ c ∈ l, c ∈ alpha) (m : Msg) : (l.all fun c => len c m) = false ↔ refLong l m = true ∨ (m.rows.any fun x => outB l 114 x.path.length 96) = true := by
  rw [List.all_eq_false]
  unfold refLong
  simp only [outB_len, Bool.or_eq_true, Bool.and_eq_true, decide_eq_true_eq, List.any_eq_true]
  constructor
  · rintro ⟨c, hc, hb⟩
    have ha := hl c hc
    simp only [alpha, List.mem_cons, List.not_mem_nil, or_false] at ha
    rcases ha with rfl | rfl | rfl | rfl | rfl | rfl | rfl | rfl | rfl | rfl | rfl | rfl | rfl | rfl | rfl
    case inr.inr.inr.inr.inl =>
      have : ¬ decide (m.path.length ≤ 96) = true := hb
      exact .inl (.inl (.inl ⟨hc, by simpa using this⟩))
    case inr.inr.inr.inr.inr.inr.inr.inr.inr.inr.inr.inr.inr.inl =>
      have : ¬ decide (m.data.length ≤ 200) = true := hb
      exact .inl (.inl (.inr ⟨hc, by simpa using this⟩))
    case inr.inr.inr.inr.inr.inr.inr.inr.inr.inr.inr.inr.inr.inr =>
      have : ¬ (decide (m.rows.length ≤ 8) && m.rows.all fun x => decide (x.path.length ≤ 96)) = true := hb
      rw [Bool.and_eq_true, decide_eq_true_eq, List.all_eq_true] at this
      by_cases h8 : m.rows.length ≤ 8
      · right
        have h2 : ¬ ∀ x ∈ m.rows, decide (x.path.length ≤ 96) = true := fun h => this ⟨h8, h⟩
        obtain ⟨x, hx⟩ := Classical.not_forall.1 h2
        obtain ⟨hx1, hx2⟩ := Classical.not_imp.1 hx
        exact ⟨x, hx1, hc, by simpa using hx2⟩
      · exact .inl (.inr ⟨hc, by omega⟩)
    all_goals exact absurd (show len _ m = true from rfl) hb
  · rintro (((⟨h1, h2⟩ | ⟨h1, h2⟩) | ⟨h1, h2⟩) | ⟨x, hx, h1, h2⟩)
    · exact ⟨80, h1, fun h => by have : m.path.length ≤ 96 := of_decide_eq_true h; omega⟩
    · exact ⟨100, h1, fun h => by have : m.data.length ≤ 200 := of_decide_eq_true h; omega⟩
    · exact ⟨114, h1, fun h => by
        have h' : (decide (m.rows.length ≤ 8) && m.rows.all fun x => decide (x.path.length ≤ 96)) = true := h
        rw [Bool.and_eq_true, decide_eq_true_eq] at h'
        omega⟩
    · exact ⟨114, h1, fun h => by
        have h' : (decide (m.rows.length ≤ 8) && m.rows.all fun x => decide (x.path.length ≤ 96)) = true := h
        rw [Bool.and_eq_true, List.all_eq_true] at h'
        have := of_decide_eq_true (h'.2 x hx); omega⟩
theorem refCheck_eq (m : Msg) : refCheck m = check m := by
  have ha : ∀ c ∈ has m.kind, c ∈ alpha := (hasN_alpha _).1
  have hb := all_bnd (has m.kind) ha m
  have hl := all_len (has m.kind) ha m
  unfold refCheck check
  by_cases h0 : has m.kind = []
  · rw [if_pos (.inl h0), if_pos (.inl h0)]
  · by_cases h1 : refBad (has m.kind) m = true
    · rw [if_pos (.inr h1), if_pos (.inr (hb.2 (.inl h1)))]
    · have hn1 : ¬ (has m.kind = [] ∨ refBad (has m.kind) m = true) := by
        rintro (h | h)
        · exact h0 h
        · exact h1 h
      rw [if_neg hn1]
      by_cases h2 : m.rows.any (rowOut (has m.kind)) = true
      · rw [if_pos h2, if_pos (.inr (hb.2 (.inr h2)))]
      · have hn : ¬ (has m.kind = [] ∨ ((has m.kind).all fun c => bnd c m) = false) := by
          rintro (h | h)
          · exact h0 h
          · exact (hb.1 h).elim h1 h2
        rw [if_neg h2, if_neg hn]
        by_cases h3 : refLong (has m.kind) m = true
        · rw [if_pos h3, if_pos (hl.2 (.inl h3))]
        · rw [if_neg h3]
          by_cases h4 : (m.rows.any fun x => outB (has m.kind) 114 x.path.length 96) = true
          · rw [if_pos h4, if_pos (hl.2 (.inr h4))]
          · rw [if_neg h4, if_neg (fun h => (hl.1 h).elim h3 h4)]
end Go.Proofs.Ms
