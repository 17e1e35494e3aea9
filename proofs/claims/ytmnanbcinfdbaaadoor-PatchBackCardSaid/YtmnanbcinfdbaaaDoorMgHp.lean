/- Steps from a base to data, plain; conditions: none beyond their hypotheses. What hunted steps make, and how much they copy and tell, plain; conditions: none beyond their hypotheses. -/
import Derived.Test.YtmnanbcinfdbaaaDoorMgSg6
import Derived.Test.YtmnanbcinfdbaaaDoorMgU
import Derived.Test.YtmnanbcinfdbaaaDoorMgWin
set_option linter.unusedSimpArgs false
set_option linter.unusedVariables false
section
namespace Go.Proofs.YtmnanbcinfdbaaaDoor
open Go.RowKit Go.Proofs.U
set_option linter.unusedVariables false
/-- a byte more is told -/
def tell (l : List Gr.Stp) (c : UInt8) : List Gr.Stp :=
  match l.getLast? with
  | some s => if s.k = 2 ∧ s.l < 128 then l.dropLast ++ [⟨2, s.f, s.l + 1, s.d ++ [c]⟩] else l ++ [⟨2, 0, 1, [c]⟩]
  | none => [⟨2, 0, 1, [c]⟩]
def tells (l : List Gr.Stp) (bs : List UInt8) : List Gr.Stp := bs.foldl tell l
theorem tells_nil (l : List Gr.Stp) : tells l [] = l := rfl
theorem tells_cons (l : List Gr.Stp) (c : UInt8) (bs : List UInt8) : tells l (c :: bs) = tells (tell l c) bs := rfl
theorem tells_append (l : List Gr.Stp) (a b : List UInt8) : tells l (a ++ b) = tells (tells l a) b := by simp [tells, List.foldl_append]
theorem tell_open (ini : List Gr.Stp) (f m : Int) (d : List UInt8) (c : UInt8) (h : m < 128) : tell (ini ++ [⟨2, f, m, d⟩]) c = ini ++ [⟨2, f, m + 1, d ++ [c]⟩] := by
  simp [tell, h]
/-- nothing more fits into the last step -/
def Shut (l : List Gr.Stp) : Prop := ∀ s, l.getLast? = some s → ¬ (s.k = 2 ∧ s.l < 128)
theorem tell_shut (l : List Gr.Stp) (c : UInt8) (h : Shut l) : tell l c = l ++ [⟨2, 0, 1, [c]⟩] := by
  unfold tell
  cases hl : l.getLast? with
  | none => rw [List.getLast?_eq_none_iff.1 hl]; rfl
  | some s => simp only; rw [if_neg (h s hl)]
theorem tells_open (ini : List Gr.Stp) (f : Int) : ∀ (bs : List UInt8) (m : Int) (d : List UInt8), m + bs.length ≤ 128 → tells (ini ++ [⟨2, f, m, d⟩]) bs = ini ++ [⟨2, f, m + bs.length, d ++ bs⟩]
  | [], m, d, _ => by simp [tells]
  | c :: bs, m, d, h => by
    simp only [List.length_cons] at h
    rw [tells_cons, tell_open _ _ _ _ _ (by omega), tells_open ini f bs (m + 1) (d ++ [c]) (by omega)]
    simp only [List.length_cons, List.append_assoc, List.singleton_append]
    congr 3
    omega
theorem tells_shut (l : List Gr.Stp) (c : UInt8) (bs : List UInt8) (h : Shut l) (hb : bs.length + 1 ≤ 128) : tells l (c :: bs) = tells (l ++ [⟨2, 0, 0, []⟩]) (c :: bs) := by
  rw [tells_open _ _ _ _ _ (by simp only [List.length_cons]; omega), tells_cons, tell_shut _ _ h, tells_open _ _ _ _ _ (by omega)]
  simp only [List.length_cons, List.nil_append, List.singleton_append]
  congr 3
  omega
/-- a copy more -/
def copyS (l : List Gr.Stp) (o n : Int) : List Gr.Stp :=
  match l.getLast? with
  | some s => if s.k = 1 ∧ s.f + s.l = o then l.dropLast ++ [⟨1, s.f, s.l + n, s.d⟩] else l ++ [⟨1, o, n, []⟩]
  | none => [⟨1, o, n, []⟩]
/-- the block behind the last copy -/
def nxt (l : List Gr.Stp) (s : Nat) : Int :=
  match l.getLast? with
  | some x => if x.k = 1 then (x.f + x.l).tdiv (s : Int) else -1
  | none => -1
/-- the block that is copied -/
def pick (l : List Gr.Stp) (base : List UInt8) (s : Nat) (b : List UInt8) : Option Nat :=
  if (Has (base.length / s) (nxt l s) && (blkB base s (nxt l s).toNat == b)) = true then some (nxt l s).toNat else fst17 base s b (base.length / s)
theorem fst17_has {base : List UInt8} {s : Nat} {b : List UInt8} {n i : Nat} (h : fst17 base s b n = some i) : i < n ∧ blkB base s i = b := by
  unfold fst17 at h
  have h1 := List.mem_of_find?_eq_some h
  have h2 := List.find?_some h
  exact ⟨List.mem_range.1 h1, by simpa using h2⟩
theorem fst17_some {base : List UInt8} {s : Nat} {b : List UInt8} {n i : Nat} (hi : i < n) (h : blkB base s i = b) : ∃ j, fst17 base s b n = some j := by
  unfold fst17
  rcases hf : (List.range n).find? (fun i => blkB base s i == b) with _ | j
  · rw [List.find?_eq_none] at hf
    exact absurd (by simpa using h) (hf i (List.mem_range.2 hi))
  · exact ⟨j, rfl⟩
theorem pick_has {l : List Gr.Stp} {base : List UInt8} {s : Nat} {b : List UInt8} {i : Nat} (h : pick l base s b = some i) : i < base.length / s ∧ blkB base s i = b := by
  unfold pick at h
  split at h
  · rename_i hc
    simp only [Bool.and_eq_true, beq_iff_eq] at hc
    obtain ⟨k, hk, hlt⟩ := Has_nat hc.1
    injection h with h
    subst h
    rw [hk] at hc ⊢
    exact ⟨hlt, hc.2⟩
  · exact fst17_has h
theorem pick_some {base : List UInt8} {s : Nat} {b : List UInt8} {i : Nat} (l : List Gr.Stp) (hi : i < base.length / s) (h : blkB base s i = b) : ∃ j, pick l base s b = some j := by
  unfold pick
  split
  · exact ⟨_, rfl⟩
  · exact fst17_some hi h
/-- the steps from a place of the data on -/
def huntS (base data : List UInt8) (s : Nat) : Nat → Nat → List Gr.Stp → List Gr.Stp
  | 0, _, l => l
  | F + 1, a, l =>
    if a < data.length then
      match (if a + s ≤ data.length then pick l base s (inw data s a) else none) with
      | some i => huntS base data s F (a + s) (copyS l ((i * s : Nat) : Int) (s : Int))
      | none => huntS base data s F (a + 1) (tells l ((data.drop a).take 1))
    else l
theorem huntS_end {base data : List UInt8} {s F a : Nat} {l : List Gr.Stp} (h : data.length ≤ a) : huntS base data s F a l = l := by
  cases F with
  | zero => rfl
  | succ F => unfold huntS; rw [if_neg (by omega)]
theorem huntS_copy {base data : List UInt8} {s F a i : Nat} {l : List Gr.Stp} (hs : 1 ≤ s) (h : a + s ≤ data.length) (hp : pick l base s (inw data s a) = some i) : huntS base data s (F + 1) a l = huntS base data s F (a + s) (copyS l ((i * s : Nat) : Int) (s : Int)) := by
  rw [huntS, if_pos (by omega), if_pos h, hp]
theorem huntS_tell {base data : List UInt8} {s F a : Nat} {l : List Gr.Stp} (h : a + s ≤ data.length) (hs : 1 ≤ s) (hp : pick l base s (inw data s a) = none) : huntS base data s (F + 1) a l = huntS base data s F (a + 1) (tells l ((data.drop a).take 1)) := by
  rw [huntS, if_pos (by omega), if_pos h, hp]
theorem huntS_last {base data : List UInt8} {s : Nat} : ∀ {F a : Nat} {l : List Gr.Stp}, data.length < a + s → data.length ≤ a + F → huntS base data s F a l = tells l (data.drop a)
  | 0, a, l, _, h2 => by rw [List.drop_eq_nil_of_le (by omega)]; rfl
  | F + 1, a, l, h1, h2 => by
    by_cases h : a < data.length
    · rw [huntS, if_pos h, if_neg (by omega)]
      simp only
      rw [huntS_last (by omega) (by omega), ← tells_append]
      congr 1
      rw [show data.drop (a + 1) = (data.drop a).drop 1 by rw [List.drop_drop], List.take_append_drop]
    · rw [huntS_end (by omega), List.drop_eq_nil_of_le (by omega)]; rfl
/-- a step that hunting makes -/
def OkS (s nb : Nat) (x : Gr.Stp) : Prop :=
  (∃ a b : Nat, x = ⟨1, ((a * s : Nat) : Int), ((b * s : Nat) : Int), []⟩ ∧ 1 ≤ b ∧ a + b ≤ nb / s) ∨ (∃ d : List UInt8, x = ⟨2, 0, (d.length : Int), d⟩ ∧ 1 ≤ d.length ∧ d.length ≤ 128)
def Oks (s nb : Nat) (l : List Gr.Stp) : Prop := ∀ x ∈ l, OkS s nb x
theorem Oks.nil (s nb : Nat) : Oks s nb [] := by intro x h; cases h
theorem last_cases (l : List Gr.Stp) : l = [] ∨ ∃ ini x, l = ini ++ [x] := by
  rcases List.eq_nil_or_concat l with h | ⟨i, x, h⟩
  · exact .inl h
  · exact .inr ⟨i, x, by rw [h, List.concat_eq_append]⟩
theorem Oks.tell {s nb : Nat} {l : List Gr.Stp} (h : Oks s nb l) (c : UInt8) : Oks s nb (tell l c) := by
  have hnew : OkS s nb ⟨2, 0, 1, [c]⟩ := .inr ⟨[c], by simp, by simp, by simp⟩
  rcases last_cases l with rfl | ⟨ini, x, rfl⟩
  · intro y hy
    simp [Go.Proofs.YtmnanbcinfdbaaaDoor.tell] at hy
    rw [hy]; exact hnew
  · have hx := h x (by simp)
    unfold Go.Proofs.YtmnanbcinfdbaaaDoor.tell
    rw [List.getLast?_concat]
    simp only
    split
    · rename_i hc
      rw [List.dropLast_concat]
      intro y hy
      rcases List.mem_append.1 hy with hy | hy
      · exact h y (by simp [hy])
      · simp only [List.mem_singleton] at hy
        subst hy
        rcases hx with ⟨a, b, rfl, _⟩ | ⟨d, rfl, h1, h2⟩
        · exact absurd hc.1 (by simp)
        · have := hc.2
          simp only at this
          exact .inr ⟨d ++ [c], by simp, by simp, by simp; omega⟩
    · intro y hy
      rcases List.mem_append.1 hy with hy | hy
      · exact h y hy
      · simp only [List.mem_singleton] at hy
        subst hy; exact hnew
theorem Oks.tells {s nb : Nat} : ∀ {bs : List UInt8} {l : List Gr.Stp}, Oks s nb l → Oks s nb (tells l bs)
  | [], l, h => h
  | c :: bs, l, h => by rw [tells_cons]; exact Oks.tells (h.tell c)
theorem Oks.copy {s nb : Nat} {l : List Gr.Stp} (h : Oks s nb l) {i : Nat} (hi : i < nb / s) (hs : 1 ≤ s) : Oks s nb (copyS l ((i * s : Nat) : Int) (s : Int)) := by
  have hnew : OkS s nb ⟨1, ((i * s : Nat) : Int), (s : Int), []⟩ := .inl ⟨i, 1, by simp, by simp, by omega⟩
  rcases last_cases l with rfl | ⟨ini, x, rfl⟩
  · intro y hy
    simp only [copyS, List.getLast?_nil, List.mem_singleton] at hy
    rw [hy]; exact hnew
  · have hx := h x (by simp)
    unfold copyS
    rw [List.getLast?_concat]
    simp only
    split
    · rename_i hc
      rw [List.dropLast_concat]
      intro y hy
      rcases List.mem_append.1 hy with hy | hy
      · exact h y (by simp [hy])
      · simp only [List.mem_singleton] at hy
        subst hy
        rcases hx with ⟨a, b, rfl, h1, h2⟩ | ⟨d, rfl, h1, h2⟩
        · have hh := hc.2
          simp only at hh ⊢
          have h3 : a * s + b * s = i * s := by exact_mod_cast hh
          rw [← Nat.add_mul] at h3
          have h4 : a + b = i := Nat.eq_of_mul_eq_mul_right (by omega) h3
          exact .inl ⟨a, b + 1, by simp [Nat.add_mul], by omega, by omega⟩
        · exact absurd hc.1 (by simp)
    · intro y hy
      rcases List.mem_append.1 hy with hy | hy
      · exact h y hy
      · simp only [List.mem_singleton] at hy
        subst hy; exact hnew
theorem Oks.hunt {base data : List UInt8} {s : Nat} (hs : 1 ≤ s) : ∀ {F a : Nat} {l : List Gr.Stp}, Oks s base.length l → Oks s base.length (huntS base data s F a l)
  | 0, a, l, h => h
  | F + 1, a, l, h => by
    unfold huntS
    split
    · split
      · rename_i i hi
        split at hi
        · exact Oks.hunt hs (h.copy (pick_has hi).1 hs)
        · cases hi
      · exact Oks.hunt hs h.tells
    · exact h
/-- the place at which the last copy ended, in whole blocks -/
theorem nxt_end {s nb : Nat} {ini : List Gr.Stp} {x : Gr.Stp} (h : Oks s nb (ini ++ [x])) (hk : x.k = 1) (hs : 1 ≤ s) : ∃ j : Nat, j ≤ nb / s ∧ x.f + x.l = ((j * s : Nat) : Int) ∧ nxt (ini ++ [x]) s = (j : Int) := by
  rcases h x (by simp) with ⟨a, b, rfl, h1, h2⟩ | ⟨d, rfl, _⟩
  · refine ⟨a + b, h2, by simp [Nat.add_mul], ?_⟩
    unfold nxt
    rw [List.getLast?_concat]
    simp only [if_true]
    rw [show ((a * s : Nat) : Int) + ((b * s : Nat) : Int) = ((a + b : Nat) : Int) * (s : Int) by rw [← Int.natCast_mul, Nat.add_mul]; simp]
    rw [Int.mul_tdiv_cancel _ (by omega)]
  · exact absurd hk (by simp)
end Go.Proofs.YtmnanbcinfdbaaaDoor
end

section
namespace Go.Proofs.YtmnanbcinfdbaaaDoor
open Go.RowKit Go.Proofs.U
set_option linter.unusedVariables false
def outS (base : List UInt8) (x : Gr.Stp) : List UInt8 := if x.k = 1 then (base.drop x.f.toNat).take x.l.toNat else x.d
def outL (base : List UInt8) (l : List Gr.Stp) : List UInt8 := l.flatMap (outS base)
theorem outL_append (base : List UInt8) (a b : List Gr.Stp) : outL base (a ++ b) = outL base a ++ outL base b := by simp [outL, List.flatMap_append]
theorem outL_one (base : List UInt8) (x : Gr.Stp) : outL base [x] = outS base x := by simp [outL]
theorem outL_tell (base : List UInt8) (l : List Gr.Stp) (c : UInt8) : outL base (tell l c) = outL base l ++ [c] := by
  rcases last_cases l with rfl | ⟨ini, x, rfl⟩
  · simp [tell, outL, outS]
  · unfold tell
    rw [List.getLast?_concat]
    simp only
    split
    · rename_i hc
      rw [List.dropLast_concat, outL_append, outL_append, outL_one, outL_one]
      have h1 : outS base ⟨2, x.f, x.l + 1, x.d ++ [c]⟩ = x.d ++ [c] := by simp [outS]
      have h2 : outS base x = x.d := by unfold outS; rw [if_neg (by omega)]
      rw [h1, h2, List.append_assoc]
    · rw [outL_append, outL_one]
      have h1 : outS base ⟨2, 0, 1, [c]⟩ = [c] := by simp [outS]
      rw [h1]
theorem outL_tells (base : List UInt8) : ∀ (bs : List UInt8) (l : List Gr.Stp), outL base (tells l bs) = outL base l ++ bs
  | [], l => by simp [tells]
  | c :: bs, l => by rw [tells_cons, outL_tells base bs, outL_tell]; simp
theorem outL_copy {base : List UInt8} {s : Nat} {l : List Gr.Stp} (h : Oks s base.length l) (i : Nat) : outL base (copyS l ((i * s : Nat) : Int) (s : Int)) = outL base l ++ blkB base s i := by
  have hnew : outS base ⟨1, ((i * s : Nat) : Int), (s : Int), []⟩ = blkB base s i := by unfold outS blkB; rw [if_pos rfl]; rfl
  rcases last_cases l with rfl | ⟨ini, x, rfl⟩
  · simp only [copyS, List.getLast?_nil, outL_one, hnew]; rfl
  · have hx := h x (by simp)
    unfold copyS
    rw [List.getLast?_concat]
    simp only
    split
    · rename_i hc
      rw [List.dropLast_concat, outL_append, outL_append, outL_one, outL_one, List.append_assoc]
      congr 1
      rcases hx with ⟨a, b, rfl, h1, h2⟩ | ⟨d, rfl, h1, h2⟩
      · have hh := hc.2
        simp only at hh
        have h3 : a * s + b * s = i * s := by exact_mod_cast hh
        unfold outS blkB
        simp only [if_true]
        rw [show (((a * s : Nat) : Int)).toNat = a * s from rfl, show (((b * s : Nat) : Int)).toNat = b * s from rfl, show (((b * s : Nat) : Int) + (s : Int)).toNat = b * s + s by omega]
        rw [List.take_add, List.drop_drop, h3]
      · exact absurd hc.1 (by simp)
    · rw [outL_append, outL_one, hnew]
theorem outL_hunt {base data : List UInt8} {s : Nat} (hs : 1 ≤ s) : ∀ {F a : Nat} {l : List Gr.Stp}, Oks s base.length l → outL base l = data.take a → data.length ≤ a + F → outL base (huntS base data s F a l) = data
  | 0, a, l, h, ho, hF => by unfold huntS; rw [ho, List.take_of_length_le (by omega)]
  | F + 1, a, l, h, ho, hF => by
    unfold huntS
    split
    · split
      · rename_i i hi
        split at hi
        · refine outL_hunt hs (h.copy (pick_has hi).1 hs) ?_ (by omega)
          rw [outL_copy h, ho, (pick_has hi).2, List.take_add]; rfl
        · cases hi
      · refine outL_hunt hs h.tells ?_ (by omega)
        rw [outL_tells, ho, List.take_add]
    · rw [ho, List.take_of_length_le (by omega)]
/-- how much is copied, and told -/
def ccS (l : List Gr.Stp) : Int := (l.map fun x => if x.k = 1 then x.l else 0).sum
def ctS (l : List Gr.Stp) : Int := (l.map fun x => if x.k = 1 then 0 else (x.d.length : Int)).sum
theorem ccS_append (a b : List Gr.Stp) : ccS (a ++ b) = ccS a + ccS b := by simp [ccS]
theorem ctS_append (a b : List Gr.Stp) : ctS (a ++ b) = ctS a + ctS b := by simp [ctS]
theorem ccS_tell (l : List Gr.Stp) (c : UInt8) : ccS (tell l c) = ccS l ∧ ctS (tell l c) = ctS l + 1 := by
  rcases last_cases l with rfl | ⟨ini, x, rfl⟩
  · exact ⟨rfl, rfl⟩
  · unfold tell
    rw [List.getLast?_concat]
    simp only
    split
    · rename_i hc
      rw [List.dropLast_concat]
      simp only [ccS_append, ctS_append]
      have hk : ¬ x.k = 1 := by omega
      simp [ccS, ctS, hk]
      omega
    · simp [ccS_append, ctS_append, ccS, ctS]
      omega
theorem ccS_tells : ∀ (bs : List UInt8) (l : List Gr.Stp), ccS (tells l bs) = ccS l ∧ ctS (tells l bs) = ctS l + bs.length
  | [], l => by simp [tells]
  | c :: bs, l => by
    rw [tells_cons]
    obtain ⟨h1, h2⟩ := ccS_tells bs (tell l c)
    obtain ⟨h3, h4⟩ := ccS_tell l c
    refine ⟨h1.trans h3, ?_⟩
    rw [h2, h4, List.length_cons]
    push_cast
    omega
theorem ccS_copy (l : List Gr.Stp) (o n : Int) : ccS (copyS l o n) = ccS l + n ∧ ctS (copyS l o n) = ctS l := by
  rcases last_cases l with rfl | ⟨ini, x, rfl⟩
  · simp [copyS, ccS, ctS]
  · unfold copyS
    rw [List.getLast?_concat]
    simp only
    split
    · rename_i hc
      rw [List.dropLast_concat]
      simp only [ccS_append, ctS_append]
      simp [ccS, ctS, hc.1]
      omega
    · simp [ccS_append, ctS_append, ccS, ctS]
      try omega
theorem len_all {base : List UInt8} {s : Nat} : ∀ {l : List Gr.Stp}, Oks s base.length l → ((outL base l).length : Int) = ccS l + ctS l
  | [], _ => rfl
  | x :: l, h => by
    have ih := len_all (fun y hy => h y (List.mem_cons_of_mem _ hy) : Oks s base.length l)
    have hx := h x (List.mem_cons_self)
    have e1 : outL base (x :: l) = outS base x ++ outL base l := by simp [outL]
    have e2 : ccS (x :: l) = (if x.k = 1 then x.l else 0) + ccS l := by simp [ccS]
    have e3 : ctS (x :: l) = (if x.k = 1 then 0 else (x.d.length : Int)) + ctS l := by simp [ctS]
    rw [e1, e2, e3, List.length_append]
    push_cast
    rw [ih]
    rcases hx with ⟨a, b, rfl, h1, h2⟩ | ⟨d, rfl, h1, h2⟩
    · have hm : (a + b) * s ≤ base.length / s * s := Nat.mul_le_mul_right s h2
      have hd : base.length / s * s ≤ base.length := Nat.div_mul_le_self _ s
      rw [Nat.add_mul] at hm
      simp only [outS, if_true, List.length_take, List.length_drop]
      rw [show (((a * s : Nat) : Int)).toNat = a * s from rfl, show (((b * s : Nat) : Int)).toNat = b * s from rfl]
      rw [Nat.min_eq_left (by omega)]
      omega
    · simp [outS]
      omega
theorem tell_len (l : List Gr.Stp) (c : UInt8) : l.length ≤ (tell l c).length ∧ (tell l c).length ≤ l.length + 1 := by
  rcases last_cases l with rfl | ⟨ini, x, rfl⟩
  · simp [tell]
  · unfold tell
    rw [List.getLast?_concat]
    simp only
    split
    · rw [List.dropLast_concat]; simp
    · simp
theorem tells_len : ∀ (bs : List UInt8) (l : List Gr.Stp), (tells l bs).length ≤ l.length + bs.length
  | [], l => by simp [tells]
  | c :: bs, l => by rw [tells_cons]; have := tells_len bs (tell l c); have := (tell_len l c).2; simp only [List.length_cons]; omega
theorem copy_len (l : List Gr.Stp) (o n : Int) : (copyS l o n).length ≤ l.length + 1 := by
  rcases last_cases l with rfl | ⟨ini, x, rfl⟩
  · simp [copyS]
  · unfold copyS
    rw [List.getLast?_concat]
    simp only
    split
    · rw [List.dropLast_concat]; simp
    · simp
theorem ccS_hunt {base data : List UInt8} {s : Nat} : ∀ {F a : Nat} {l : List Gr.Stp}, ccS l ≤ ccS (huntS base data s F a l)
  | 0, a, l => Int.le_refl _
  | F + 1, a, l => by
    unfold huntS
    split
    · split
      · refine Int.le_trans ?_ ccS_hunt
        rw [(ccS_copy _ _ _).1]; omega
      · refine Int.le_trans ?_ ccS_hunt
        rw [(ccS_tells _ _).1]; exact Int.le_refl _
    · exact Int.le_refl _
/-- where the data begin with the base's blocks, these are copied -/
theorem hunt_blocks {base data : List UInt8} {s : Nat} (hs : 1 ≤ s) (h1 : base.length ≤ data.length) (h2 : data.take base.length = base) : ∀ k, k ≤ base.length / s → ∀ F, data.length ≤ F →
    ∃ l F', huntS base data s F 0 [] = huntS base data s F' (k * s) l ∧ ccS l = ((k * s : Nat) : Int) ∧ ctS l = 0 ∧ F' + k = F
  | 0, _, F, hF => ⟨[], F, by rw [Nat.zero_mul], by simp [ccS], rfl, rfl⟩
  | k + 1, hk, F, hF => by
    obtain ⟨l, F', e, hc, ht, hf⟩ := hunt_blocks hs h1 h2 k (by omega) F hF
    have hm : (k + 1) * s ≤ base.length / s * s := Nat.mul_le_mul_right s hk
    have hd : base.length / s * s ≤ base.length := Nat.div_mul_le_self _ s
    have hks : k ≤ k * s := Nat.le_mul_of_pos_right k (by omega)
    rw [Nat.add_mul, Nat.one_mul] at hm
    obtain ⟨F2, rfl⟩ : ∃ F2, F' = F2 + 1 := ⟨F' - 1, by omega⟩
    have hb : inw data s (k * s) = blkB base s k := by
      unfold inw blkB
      have h3 : base.drop (k * s) = (data.drop (k * s)).take (base.length - k * s) := by
        conv => lhs; rw [← h2, List.drop_take]
      rw [h3, List.take_take, Nat.min_eq_left (by omega)]
    obtain ⟨i, hi⟩ := pick_some (base := base) (s := s) (b := inw data s (k * s)) l (i := k) (by omega) hb.symm
    refine ⟨copyS l ((i * s : Nat) : Int) (s : Int), F2, e.trans ?_, ?_, ?_, by omega⟩
    · rw [huntS_copy hs (by omega) hi, Nat.add_mul, Nat.one_mul]
    · rw [(ccS_copy _ _ _).1, hc, Nat.add_mul]; push_cast; omega
    · rw [(ccS_copy _ _ _).2, ht]
theorem hunt_self {base : List UInt8} {s : Nat} (hs : 1 ≤ s) (F : Nat) (hF : base.length ≤ F) :
    ccS (huntS base base s F 0 []) = ((base.length / s * s : Nat) : Int) ∧ ctS (huntS base base s F 0 []) = ((base.length - base.length / s * s : Nat) : Int) := by
  obtain ⟨l, F', e, hc, ht, hf⟩ := hunt_blocks (base := base) (data := base) hs (Nat.le_refl _) (List.take_length) (base.length / s) (Nat.le_refl _) F hF
  have hd : base.length / s * s ≤ base.length := Nat.div_mul_le_self _ s
  have hks : base.length / s ≤ base.length / s * s := Nat.le_mul_of_pos_right _ (by omega)
  have hlt : base.length < base.length / s * s + s := by
    have := Nat.lt_div_mul_add (a := base.length) (b := s) (by omega)
    omega
  rw [e, huntS_last hlt (by omega)]
  refine ⟨(ccS_tells _ _).1.trans hc, (ccS_tells _ _).2.trans ?_⟩
  rw [ht, List.length_drop]
  omega
theorem hunt_more {base more : List UInt8} {s : Nat} (hs : 1 ≤ s) (F : Nat) (hF : (base ++ more).length ≤ F) : ((base.length / s * s : Nat) : Int) ≤ ccS (huntS base (base ++ more) s F 0 []) := by
  obtain ⟨l, F', e, hc, ht, hf⟩ := hunt_blocks (base := base) (data := base ++ more) hs (by simp) (by simp) (base.length / s) (Nat.le_refl _) F hF
  rw [e, ← hc]
  exact ccS_hunt
end Go.Proofs.YtmnanbcinfdbaaaDoor
end
