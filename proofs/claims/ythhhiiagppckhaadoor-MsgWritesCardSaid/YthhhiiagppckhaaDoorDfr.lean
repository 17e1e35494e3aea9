/- The walks of the package frame and of its reference; conditions: none beyond their hypotheses. -/
import Derived.Test.YthhhiiagppckhaaDoorDfl
namespace Go.Proofs.YthhhiiagppckhaaDoor
open Go.RowKit Go.Proofs.U
set_option linter.unusedVariables false

/-! plain -/
def num2 (x y : UInt8) : Nat := x.toNat * 256 + y.toNat
def two (n : Nat) : List UInt8 := [UInt8.ofNat (n / 256), UInt8.ofNat n]
/-- a frame, and the error's number -/
def fwrap (p : List UInt8) : List UInt8 × Int := if 1400 < p.length then ([], 13) else (sealed (two p.length) ++ sealed p, 0)
/-- the length that a frame tells, and the error's number -/
def flen (b : List UInt8) : Nat × Int :=
  if b.length < 6 then (0, 11) else
  match opn (b.take 6) with
  | ([x, y], _) => if 1400 < num2 x y then (0, 13) else (num2 x y, 0)
  | _ => (0, 14)
/-- what is taken, of how many bytes, and the error's number -/
def ftake (b : List UInt8) : List UInt8 × Nat × Int :=
  match flen b with
  | (n, e) => if e ≠ 0 then ([], 0, e) else if b.length < n + 10 then ([], 0, 11) else
    match opn ((b.drop 6).take (n + 4)) with
    | (p, e) => if e ≠ 0 then ([], 0, e) else (p, n + 10, 0)
def fneed (b : List UInt8) : Nat × Int :=
  match flen b with
  | (n, e) => if e = 11 then (6 - b.length, 0) else if e ≠ 0 then (0, e) else if b.length < n + 10 then (n + 10 - b.length, 0) else (0, (ftake b).2.2)
theorem opn_code (l : List UInt8) (h : 4 ≤ l.length) : (opn l).2 = 0 ∧ l = sealed (opn l).1 ∧ (opn l).1.length + 4 = l.length ∨ opn l = ([], 14) := by
  unfold opn
  rw [if_neg (by omega)]
  split
  · left; refine ⟨rfl, ‹_›, by simp; omega⟩
  · right; rfl
theorem opn_six (b : List UInt8) (h : 6 ≤ b.length) : (∃ x y, opn (b.take 6) = ([x, y], 0) ∧ b[0]? = some x ∧ b[1]? = some y) ∨ opn (b.take 6) = ([], 14) := by
  rcases opn_code (b.take 6) (by simp; omega) with ⟨h1, h2, h3⟩ | h1
  · left
    have hl : (opn (b.take 6)).1.length = 2 := by simp at h3; omega
    match he : (opn (b.take 6)).1, hl with
    | [x, y], _ =>
      rw [he] at h2
      refine ⟨x, y, by rw [← he, ← h1], ?_, ?_⟩
      · have := congrArg (fun l : List UInt8 => l[0]?) h2
        simpa [sealed, List.getElem?_take] using this
      · have := congrArg (fun l : List UInt8 => l[1]?) h2
        simpa [sealed, List.getElem?_take] using this
  · exact .inr h1
theorem num2_two (n : Nat) (h : n < 65536) : num2 (UInt8.ofNat (n / 256)) (UInt8.ofNat n) = n := by
  unfold num2; rw [UInt8.toNat_ofNat', UInt8.toNat_ofNat']; omega
theorem num2_lt (x y : UInt8) : num2 x y < 65536 := by
  have := x.toNat_lt; have := y.toNat_lt; unfold num2; omega
theorem flen_lt (b : List UInt8) : (flen b).1 ≤ 1400 := by
  unfold flen
  split
  · simp
  · split
    · split
      · simp
      · simp; omega
    · simp

/-! walks -/
set_option maxHeartbeats 400000 in
theorem size_any (n : Int) (h0 : -9223372036854775808 ≤ n) (h : n ≤ 1099511627776) (w : World) :
    Calls Tryd.prog 116 #[.int .i64 n] w fun e w' => e = .returned (.int .i64 (10 + max n 0)) ∧ w = w' := by
  by_cases hn : n < 0
  · rw [show max n 0 = 0 by omega]
    go_enter Tryd.func116, Tryd.ntmps116
    go_wp2_with fail
    go_ret
    exact ⟨rfl, rfl⟩
  · rw [show max n 0 = n by omega]
    have hn' : 0 ≤ n := by omega
    clear hn
    go_enter Tryd.func116, Tryd.ntmps116
    go_wp2_with fail
    go_ret
    exact ⟨rfl, rfl⟩
theorem size_nat (n : Nat) (h : n ≤ 1099511627776) (w : World) :
    Calls Tryd.prog 116 #[.int .i64 (n : Int)] w fun e w' => e = .returned (.int .i64 (10 + (n : Int))) ∧ w = w' := by
  have := size_any (n : Int) (by omega) (by omega) w
  rwa [show max (n : Int) 0 = n by omega] at this
theorem i64_or8 (x y : UInt8) : bits .or .i64 ((x.toNat : Int) * 256) (y.toNat : Int) = ((num2 x y : Nat) : Int) := by
  have hx := x.toNat_lt; have hy := y.toNat_lt
  unfold num2
  rw [show ((x.toNat : Int) * 256) = ((x.toNat * 256 : Nat) : Int) by omega]
  show IntKind.i64.wrap ((BitVec.ofInt 64 _ ||| BitVec.ofInt 64 _).toNat : Int) = _
  rw [BitVec.toNat_or, BitVec.ofInt_natCast, BitVec.ofInt_natCast, BitVec.toNat_ofNat, BitVec.toNat_ofNat, Nat.mod_eq_of_lt (by omega), Nat.mod_eq_of_lt (by omega), nat_join 8 _ _ (by omega) (by omega), IntKind.wrap_i64]
  omega
/-- a number and a code -/
def NumCode (w : World) (r : Nat × Int) (en : Ending) (w' : World) : Prop := en = .returned (.tuple #[.int .i64 (r.1 : Int), .int .i64 r.2]) ∧ Below w.heap.size w w'

set_option maxHeartbeats 400000 in
theorem length_any (A : Option Addr) (n c : Nat) (bs : List UInt8) (w : World) (hb : BS w w.heap.size A n bs) (hn : n ≤ 140737488355300) (hc : n ≤ c) (hT : Nib w) :
    Calls Tryd.prog 115 #[.slice A n c] w (NumCode w (flen bs)) := by
  by_cases h6 : n < 6
  · have e : flen bs = (0, 11) := by unfold flen; rw [if_pos (by rw [hb.1]; exact h6)]
    rw [e]
    go_enter Tryd.func115, Tryd.ntmps115
    go_wp2_with fail
    go_ret2
    exact ⟨rfl, Below.refl _ _⟩
  · have hl := hb.1
    have hb6 := hb.take (k := 6) (by omega)
    rcases opn_six bs (by omega) with ⟨x, y, ho, hx, hy⟩ | ho
    · have hx0 := x.toNat_lt
      have hy0 := y.toNat_lt
      have hor := i64_or8 x y
      have hnl := num2_lt x y
      by_cases hbig : 1400 < num2 x y
      all_goals
        have e : flen bs = if 1400 < num2 x y then (0, 13) else (num2 x y, 0) := by unfold flen; rw [if_neg (by omega), ho]
        first | rw [if_pos hbig] at e | rw [if_neg hbig] at e
        rw [e]
        clear e
        go_enter Tryd.func115, Tryd.ntmps115
        go_wp2_with fail
        refine (open_any _ _ _ (bs.take 6) _ hb6 (by omega) (by omega) hT).mono ?_
        rw [ho]
        rintro e w1 ⟨A1, c1, rfl, hown1, hb1⟩
        obtain ⟨g, rfl, hg, hg1⟩ := hown1.form (by simp)
        have hc0 := hown1.cellAt 0 x rfl
        have hc1 := hown1.cellAt 1 y rfl
        go_wp2_with fail
        go_quiet (fail)
        go_wp2_with fail
        go_ret2
        exact ⟨rfl, below_drewN hb1 _⟩
    · have e : flen bs = (0, 14) := by unfold flen; rw [if_neg (by omega), ho]
      rw [e]
      go_enter Tryd.func115, Tryd.ntmps115
      go_wp2_with fail
      refine (open_any _ _ _ (bs.take 6) _ hb6 (by omega) (by omega) hT).mono ?_
      rw [ho]
      rintro e w1 ⟨A1, c1, rfl, hown1, hb1⟩
      go_wp2_with fail
      go_ret2
      exact ⟨rfl, hb1⟩

/-- bytes, a number and a code; the bytes in memory of the call's own -/
def FTakeRet (w : World) (r : List UInt8 × Nat × Int) (en : Ending) (w' : World) : Prop :=
  ∃ A c, en = .returned (.tuple #[.slice A r.1.length c, .int .i64 (r.2.1 : Int), .int .i64 r.2.2]) ∧ Own w' w.heap.size 5 A r.1.length c r.1 ∧ Below w.heap.size w w'
/-- the codes of a length are one of these -/
theorem flen_code (b : List UInt8) : (flen b).2 = 0 ∧ 6 ≤ b.length ∨ (flen b).2 = 11 ∧ b.length < 6 ∨ (flen b).2 = 13 ∧ 6 ≤ b.length ∨ (flen b).2 = 14 ∧ 6 ≤ b.length := by
  unfold flen
  split
  · right; left; exact ⟨rfl, ‹_›⟩
  · split
    · split
      · right; right; left; exact ⟨rfl, by omega⟩
      · left; exact ⟨rfl, by omega⟩
    · right; right; right; exact ⟨rfl, by omega⟩

set_option maxHeartbeats 1000000 in
theorem take_any (A : Option Addr) (n c : Nat) (bs : List UInt8) (w : World) (hb : BS w w.heap.size A n bs) (hn : n ≤ 140737488355300) (hc : n ≤ c) (hT : Nib w) :
    Calls Tryd.prog 105 #[.slice A n c] w (FTakeRet w (ftake bs)) := by
  have hl := hb.1
  have hk := flen_lt bs
  have hcode := flen_code bs
  have hlen := length_any A n c bs w hb hn hc hT
  unfold ftake
  obtain ⟨k, e⟩ : ∃ r, r = flen bs := ⟨_, rfl⟩
  rw [← e] at hk hcode hlen ⊢
  have He := Lib.hid e
  clear e
  obtain ⟨k, code⟩ := k
  simp only at hk hcode ⊢
  rcases hcode with ⟨rfl, h6⟩ | hbad
  · simp only [ne_eq, not_true_eq_false, if_false]
    by_cases hs : bs.length < k + 10
    · rw [if_pos hs]
      have hs1 : decide ((n : Int) < 10 + (k : Int)) = true := by simp; omega
      go_enter Tryd.func105, Tryd.ntmps105
      go_wp2_with fail
      refine hlen.mono ?_
      rintro e w1 ⟨rfl, hb1⟩
      go_wp2_with fail
      refine (size_nat k (by omega) _).mono ?_
      rintro e w' ⟨rfl, rfl⟩
      go_wp2_with fail
      go_ret3
      exact ⟨none, 0, rfl, Own.nil _ _ _, hb1⟩
    · rw [if_neg hs]
      have hs1 : decide ((n : Int) < 10 + (k : Int)) = false := by simp; omega
      obtain ⟨b, off, rfl, _, _⟩ := hb.2 (by omega)
      have hbd : BS w w.heap.size (some ⟨b, off + 6, none⟩) (k + 4) ((bs.drop 6).take (k + 4)) := (hb.drop (k := 6) (by omega)).take (by omega)
      have i1 : (10 + (k : Int)).toNat = k + 10 := by omega
      have i2 : k + 10 - 6 = k + 4 := by omega
      have i3 : (6 : Int) ≤ 10 + (k : Int) := by omega
      have i4 : (10 + (k : Int)) ≤ (c : Int) := by omega
      have i5 : ¬ c = 6 := by omega
      rcases opn_code ((bs.drop 6).take (k + 4)) (by simp; omega) with ⟨h1, h2, h3⟩ | h1
      · obtain ⟨p, hp⟩ : ∃ p, opn ((bs.drop 6).take (k + 4)) = (p, 0) := ⟨_, by rw [← h1]⟩
        rw [hp]
        simp only [ne_eq, not_true_eq_false, if_false]
        have Hp := Lib.hid hp
        clear hp h1 h2 h3
        go_enter Tryd.func105, Tryd.ntmps105
        go_wp2_with fail
        refine hlen.mono ?_
        rintro e w1 ⟨rfl, hb1⟩
        go_wp2_with fail
        refine (size_nat k (by omega) _).mono ?_
        rintro e w' ⟨rfl, rfl⟩
        go_wp2_with fail
        refine (size_nat k (by omega) _).mono ?_
        rintro e w' ⟨rfl, rfl⟩
        go_wp2_with fail
        refine (open_any _ _ _ ((bs.drop 6).take (k + 4)) _ ((hbd.below hb1).more hb1.size) (by omega) (by omega) (hT.stay hb1)).mono ?_
        rw [Hp.out]
        rintro e w2 ⟨A2, c2, rfl, hown2, hb2⟩
        go_wp2_with fail
        refine (size_nat k (by omega) _).mono ?_
        rintro e w' ⟨rfl, rfl⟩
        go_wp2_with fail
        go_ret3
        exact ⟨A2, c2, by simp; omega, hown2.mono hb1.size, hb1.trans (hb2.mono hb1.size)⟩
      · rw [h1]
        simp only [ne_eq, reduceCtorEq, not_false_eq_true, if_true]
        have Hp := Lib.hid h1
        clear h1
        go_enter Tryd.func105, Tryd.ntmps105
        go_wp2_with fail
        refine hlen.mono ?_
        rintro e w1 ⟨rfl, hb1⟩
        go_wp2_with fail
        refine (size_nat k (by omega) _).mono ?_
        rintro e w' ⟨rfl, rfl⟩
        go_wp2_with fail
        refine (size_nat k (by omega) _).mono ?_
        rintro e w' ⟨rfl, rfl⟩
        go_wp2_with fail
        refine (open_any _ _ _ ((bs.drop 6).take (k + 4)) _ ((hbd.below hb1).more hb1.size) (by omega) (by omega) (hT.stay hb1)).mono ?_
        rw [Hp.out]
        rintro e w2 ⟨A2, c2, rfl, hown2, hb2⟩
        go_wp2_with fail
        go_ret3
        exact ⟨none, 0, by simp, Own.nil _ _ _, hb1.trans (hb2.mono hb1.size)⟩
  · rcases hbad with ⟨rfl, h6⟩ | ⟨rfl, h6⟩ | ⟨rfl, h6⟩
    all_goals
      simp only [ne_eq, reduceCtorEq, not_false_eq_true, if_true]
      go_enter Tryd.func105, Tryd.ntmps105
      go_wp2_with fail
      refine hlen.mono ?_
      rintro e w1 ⟨rfl, hb1⟩
      go_wp2_with fail
      go_ret3
      exact ⟨none, 0, by simp, Own.nil _ _ _, hb1⟩
end Go.Proofs.YthhhiiagppckhaaDoor
