/- The walks of the package frame and of its reference; conditions: none beyond their hypotheses. The walks of frame.Wrap, frame.Need and of the reference of frame; conditions: none beyond their hypotheses. Plain laws of frames: what is taken of a frame, and of one in which bits were turned; conditions: none beyond their hypotheses. Plain laws of the intake: what comes piece by piece; conditions: none beyond their hypotheses. -/
import Derived.Test.YthhhiiagppckhaaGreatDoorMgDck
set_option linter.unusedSimpArgs false
set_option linter.unusedVariables false
section
namespace Go.Proofs.YthhhiiagppckhaaGreatDoor
open Go.RowKit Go.Proofs.U
set_option linter.unusedVariables false

/-! plain -/
def num2 (x y : UInt8) : Nat := x.toNat * 256 + y.toNat
def two (n : Nat) : List UInt8 := [UInt8.ofNat (n / 256), UInt8.ofNat n]
/-- a frame, and the error's number -/
def fwrap (p : List UInt8) : List UInt8 × Int := if 1400 < p.length then ([], 13) else (sealed (two p.length) ++ sealed p, 0)
/-- the length that a frame tells, and the error's number -/
def flen (b : List UInt8) : Nat × Int :=
  if b.length < 6 then (0, 11) else
  match opn (b.take 6) with
  | ([x, y], _) => if 1400 < num2 x y then (0, 13) else (num2 x y, 0)
  | _ => (0, 14)
/-- what is taken, of how many bytes, and the error's number -/
def ftake (b : List UInt8) : List UInt8 × Nat × Int :=
  match flen b with
  | (n, e) => if e ≠ 0 then ([], 0, e) else if b.length < n + 10 then ([], 0, 11) else
    match opn ((b.drop 6).take (n + 4)) with
    | (p, e) => if e ≠ 0 then ([], 0, e) else (p, n + 10, 0)
def fneed (b : List UInt8) : Nat × Int :=
  match flen b with
  | (n, e) => if e = 11 then (6 - b.length, 0) else if e ≠ 0 then (0, e) else if b.length < n + 10 then (n + 10 - b.length, 0) else (0, (ftake b).2.2)
theorem opn_code (l : List UInt8) (h : 4 ≤ l.length) : (opn l).2 = 0 ∧ l = sealed (opn l).1 ∧ (opn l).1.length + 4 = l.length ∨ opn l = ([], 14) := by
  unfold opn
  rw [if_neg (by omega)]
  split
  · left; refine ⟨rfl, ‹_›, by simp; omega⟩
  · right; rfl
theorem opn_six (b : List UInt8) (h : 6 ≤ b.length) : (∃ x y, opn (b.take 6) = ([x, y], 0) ∧ b[0]? = some x ∧ b[1]? = some y) ∨ opn (b.take 6) = ([], 14) := by
  rcases opn_code (b.take 6) (by simp; omega) with ⟨h1, h2, h3⟩ | h1
  · left
    have hl : (opn (b.take 6)).1.length = 2 := by simp at h3; omega
    match he : (opn (b.take 6)).1, hl with
    | [x, y], _ =>
      rw [he] at h2
      refine ⟨x, y, by rw [← he, ← h1], ?_, ?_⟩
      · have := congrArg (fun l : List UInt8 => l[0]?) h2
        simpa [sealed, List.getElem?_take] using this
      · have := congrArg (fun l : List UInt8 => l[1]?) h2
        simpa [sealed, List.getElem?_take] using this
  · exact .inr h1
theorem num2_two (n : Nat) (h : n < 65536) : num2 (UInt8.ofNat (n / 256)) (UInt8.ofNat n) = n := by
  unfold num2; rw [UInt8.toNat_ofNat', UInt8.toNat_ofNat']; omega
theorem num2_lt (x y : UInt8) : num2 x y < 65536 := by
  have := x.toNat_lt; have := y.toNat_lt; unfold num2; omega
theorem flen_lt (b : List UInt8) : (flen b).1 ≤ 1400 := by
  unfold flen
  split
  · simp
  · split
    · split
      · simp
      · simp; omega
    · simp

/-! walks -/
set_option maxHeartbeats 400000 in
theorem size_any (n : Int) (h0 : -9223372036854775808 ≤ n) (h : n ≤ 1099511627776) (w : World) :
    Calls Tryz.prog 57 #[.int .i64 n] w fun e w' => e = .returned (.int .i64 (10 + max n 0)) ∧ w = w' := by
  by_cases hn : n < 0
  · rw [show max n 0 = 0 by omega]
    go_enter Tryz.func57, Tryz.ntmps57
    go_wp2_with fail
    go_ret
    exact ⟨rfl, rfl⟩
  · rw [show max n 0 = n by omega]
    have hn' : 0 ≤ n := by omega
    clear hn
    go_enter Tryz.func57, Tryz.ntmps57
    go_wp2_with fail
    go_ret
    exact ⟨rfl, rfl⟩
theorem size_nat (n : Nat) (h : n ≤ 1099511627776) (w : World) :
    Calls Tryz.prog 57 #[.int .i64 (n : Int)] w fun e w' => e = .returned (.int .i64 (10 + (n : Int))) ∧ w = w' := by
  have := size_any (n : Int) (by omega) (by omega) w
  rwa [show max (n : Int) 0 = n by omega] at this
theorem i64_or8 (x y : UInt8) : bits .or .i64 ((x.toNat : Int) * 256) (y.toNat : Int) = ((num2 x y : Nat) : Int) := by
  have hx := x.toNat_lt; have hy := y.toNat_lt
  unfold num2
  rw [show ((x.toNat : Int) * 256) = ((x.toNat * 256 : Nat) : Int) by omega]
  show IntKind.i64.wrap ((BitVec.ofInt 64 _ ||| BitVec.ofInt 64 _).toNat : Int) = _
  rw [BitVec.toNat_or, BitVec.ofInt_natCast, BitVec.ofInt_natCast, BitVec.toNat_ofNat, BitVec.toNat_ofNat, Nat.mod_eq_of_lt (by omega), Nat.mod_eq_of_lt (by omega), nat_join 8 _ _ (by omega) (by omega), IntKind.wrap_i64]
  omega
/-- a number and a code -/
def NumCode (w : World) (r : Nat × Int) (en : Ending) (w' : World) : Prop := en = .returned (.tuple #[.int .i64 (r.1 : Int), .int .i64 r.2]) ∧ Below w.heap.size w w'

set_option maxHeartbeats 400000 in
theorem length_any (A : Option Addr) (n c : Nat) (bs : List UInt8) (w : World) (hb : BS w w.heap.size A n bs) (hn : n ≤ 140737488355300) (hc : n ≤ c) (hT : Nib w) :
    Calls Tryz.prog 56 #[.slice A n c] w (NumCode w (flen bs)) := by
  by_cases h6 : n < 6
  · have e : flen bs = (0, 11) := by unfold flen; rw [if_pos (by rw [hb.1]; exact h6)]
    rw [e]
    go_enter Tryz.func56, Tryz.ntmps56
    go_wp2_with fail
    go_ret2
    exact ⟨rfl, Below.refl _ _⟩
  · have hl := hb.1
    have hb6 := hb.take (k := 6) (by omega)
    rcases opn_six bs (by omega) with ⟨x, y, ho, hx, hy⟩ | ho
    · have hx0 := x.toNat_lt
      have hy0 := y.toNat_lt
      have hor := i64_or8 x y
      have hnl := num2_lt x y
      by_cases hbig : 1400 < num2 x y
      all_goals
        have e : flen bs = if 1400 < num2 x y then (0, 13) else (num2 x y, 0) := by unfold flen; rw [if_neg (by omega), ho]
        first | rw [if_pos hbig] at e | rw [if_neg hbig] at e
        rw [e]
        clear e
        go_enter Tryz.func56, Tryz.ntmps56
        go_wp2_with fail
        refine (open_any _ _ _ (bs.take 6) _ hb6 (by omega) (by omega) hT).mono ?_
        rw [ho]
        rintro e w1 ⟨A1, c1, rfl, hown1, hb1⟩
        obtain ⟨g, rfl, hg, hg1⟩ := hown1.form (by simp)
        have hc0 := hown1.cellAt 0 x rfl
        have hc1 := hown1.cellAt 1 y rfl
        go_wp2_with fail
        go_quiet (fail)
        go_wp2_with fail
        go_ret2
        exact ⟨rfl, below_drewN hb1 _⟩
    · have e : flen bs = (0, 14) := by unfold flen; rw [if_neg (by omega), ho]
      rw [e]
      go_enter Tryz.func56, Tryz.ntmps56
      go_wp2_with fail
      refine (open_any _ _ _ (bs.take 6) _ hb6 (by omega) (by omega) hT).mono ?_
      rw [ho]
      rintro e w1 ⟨A1, c1, rfl, hown1, hb1⟩
      go_wp2_with fail
      go_ret2
      exact ⟨rfl, hb1⟩

/-- bytes, a number and a code; the bytes in memory of the call's own -/
def FTakeRet (w : World) (r : List UInt8 × Nat × Int) (en : Ending) (w' : World) : Prop :=
  ∃ A c, en = .returned (.tuple #[.slice A r.1.length c, .int .i64 (r.2.1 : Int), .int .i64 r.2.2]) ∧ Own w' w.heap.size 5 A r.1.length c r.1 ∧ Below w.heap.size w w'
/-- the codes of a length are one of these -/
theorem flen_code (b : List UInt8) : (flen b).2 = 0 ∧ 6 ≤ b.length ∨ (flen b).2 = 11 ∧ b.length < 6 ∨ (flen b).2 = 13 ∧ 6 ≤ b.length ∨ (flen b).2 = 14 ∧ 6 ≤ b.length := by
  unfold flen
  split
  · right; left; exact ⟨rfl, ‹_›⟩
  · split
    · split
      · right; right; left; exact ⟨rfl, by omega⟩
      · left; exact ⟨rfl, by omega⟩
    · right; right; right; exact ⟨rfl, by omega⟩

set_option maxHeartbeats 1000000 in
theorem take_any (A : Option Addr) (n c : Nat) (bs : List UInt8) (w : World) (hb : BS w w.heap.size A n bs) (hn : n ≤ 140737488355300) (hc : n ≤ c) (hT : Nib w) :
    Calls Tryz.prog 33 #[.slice A n c] w (FTakeRet w (ftake bs)) := by
  have hl := hb.1
  have hk := flen_lt bs
  have hcode := flen_code bs
  have hlen := length_any A n c bs w hb hn hc hT
  unfold ftake
  obtain ⟨k, e⟩ : ∃ r, r = flen bs := ⟨_, rfl⟩
  rw [← e] at hk hcode hlen ⊢
  have He := Lib.hid e
  clear e
  obtain ⟨k, code⟩ := k
  simp only at hk hcode ⊢
  rcases hcode with ⟨rfl, h6⟩ | hbad
  · simp only [ne_eq, not_true_eq_false, if_false]
    by_cases hs : bs.length < k + 10
    · rw [if_pos hs]
      have hs1 : decide ((n : Int) < 10 + (k : Int)) = true := by simp; omega
      go_enter Tryz.func33, Tryz.ntmps33
      go_wp2_with fail
      refine hlen.mono ?_
      rintro e w1 ⟨rfl, hb1⟩
      go_wp2_with fail
      refine (size_nat k (by omega) _).mono ?_
      rintro e w' ⟨rfl, rfl⟩
      go_wp2_with fail
      go_ret3
      exact ⟨none, 0, rfl, Own.nil _ _ _, hb1⟩
    · rw [if_neg hs]
      have hs1 : decide ((n : Int) < 10 + (k : Int)) = false := by simp; omega
      obtain ⟨b, off, rfl, _, _⟩ := hb.2 (by omega)
      have hbd : BS w w.heap.size (some ⟨b, off + 6, none⟩) (k + 4) ((bs.drop 6).take (k + 4)) := (hb.drop (k := 6) (by omega)).take (by omega)
      have i1 : (10 + (k : Int)).toNat = k + 10 := by omega
      have i2 : k + 10 - 6 = k + 4 := by omega
      have i3 : (6 : Int) ≤ 10 + (k : Int) := by omega
      have i4 : (10 + (k : Int)) ≤ (c : Int) := by omega
      have i5 : ¬ c = 6 := by omega
      rcases opn_code ((bs.drop 6).take (k + 4)) (by simp; omega) with ⟨h1, h2, h3⟩ | h1
      · obtain ⟨p, hp⟩ : ∃ p, opn ((bs.drop 6).take (k + 4)) = (p, 0) := ⟨_, by rw [← h1]⟩
        rw [hp]
        simp only [ne_eq, not_true_eq_false, if_false]
        have Hp := Lib.hid hp
        clear hp h1 h2 h3
        go_enter Tryz.func33, Tryz.ntmps33
        go_wp2_with fail
        refine hlen.mono ?_
        rintro e w1 ⟨rfl, hb1⟩
        go_wp2_with fail
        refine (size_nat k (by omega) _).mono ?_
        rintro e w' ⟨rfl, rfl⟩
        go_wp2_with fail
        refine (size_nat k (by omega) _).mono ?_
        rintro e w' ⟨rfl, rfl⟩
        go_wp2_with fail
        refine (open_any _ _ _ ((bs.drop 6).take (k + 4)) _ ((hbd.below hb1).more hb1.size) (by omega) (by omega) (hT.stay hb1)).mono ?_
        rw [Hp.out]
        rintro e w2 ⟨A2, c2, rfl, hown2, hb2⟩
        go_wp2_with fail
        refine (size_nat k (by omega) _).mono ?_
        rintro e w' ⟨rfl, rfl⟩
        go_wp2_with fail
        go_ret3
        exact ⟨A2, c2, by simp; omega, hown2.mono hb1.size, hb1.trans (hb2.mono hb1.size)⟩
      · rw [h1]
        simp only [ne_eq, reduceCtorEq, not_false_eq_true, if_true]
        have Hp := Lib.hid h1
        clear h1
        go_enter Tryz.func33, Tryz.ntmps33
        go_wp2_with fail
        refine hlen.mono ?_
        rintro e w1 ⟨rfl, hb1⟩
        go_wp2_with fail
        refine (size_nat k (by omega) _).mono ?_
        rintro e w' ⟨rfl, rfl⟩
        go_wp2_with fail
        refine (size_nat k (by omega) _).mono ?_
        rintro e w' ⟨rfl, rfl⟩
        go_wp2_with fail
        refine (open_any _ _ _ ((bs.drop 6).take (k + 4)) _ ((hbd.below hb1).more hb1.size) (by omega) (by omega) (hT.stay hb1)).mono ?_
        rw [Hp.out]
        rintro e w2 ⟨A2, c2, rfl, hown2, hb2⟩
        go_wp2_with fail
        go_ret3
        exact ⟨none, 0, by simp, Own.nil _ _ _, hb1.trans (hb2.mono hb1.size)⟩
  · rcases hbad with ⟨rfl, h6⟩ | ⟨rfl, h6⟩ | ⟨rfl, h6⟩
    all_goals
      simp only [ne_eq, reduceCtorEq, not_false_eq_true, if_true]
      go_enter Tryz.func33, Tryz.ntmps33
      go_wp2_with fail
      refine hlen.mono ?_
      rintro e w1 ⟨rfl, hb1⟩
      go_wp2_with fail
      go_ret3
      exact ⟨none, 0, by simp, Own.nil _ _ _, hb1⟩
end Go.Proofs.YthhhiiagppckhaaGreatDoor
end

section
namespace Go.Proofs.YthhhiiagppckhaaGreatDoor
open Go.RowKit Go.Proofs.U
set_option linter.unusedVariables false

theorem two_len (n : Nat) : (two n).length = 2 := rfl
theorem fwrap_ok (p : List UInt8) (h : p.length ≤ 1400) : fwrap p = (sealed (two p.length) ++ sealed p, 0) := by unfold fwrap; rw [if_neg (by omega)]
theorem fwrap_no (p : List UInt8) (h : 1400 < p.length) : fwrap p = ([], 13) := by unfold fwrap; rw [if_pos h]
theorem byte_hi (n : Nat) (h : n ≤ 1400) : ((n : Int) / 256) % 256 = ((UInt8.ofNat (n / 256)).toNat : Int) := by rw [UInt8.toNat_ofNat']; omega
theorem byte_hi' (n : Nat) (h : n ≤ 1400) : ((n : Int) / 256) = ((UInt8.ofNat (n / 256)).toNat : Int) := by rw [UInt8.toNat_ofNat']; omega
theorem byte_lo (n : Nat) : ((n : Int)) % 256 = ((UInt8.ofNat n).toNat : Int) := by rw [UInt8.toNat_ofNat']; omega

set_option maxHeartbeats 1000000 in
theorem fwrap_any (A : Option Addr) (n c : Nat) (bs : List UInt8) (w : World) (hb : BS w w.heap.size A n bs) (hn : n ≤ 140737488355300) (hT : Nib w) :
    Calls Tryz.prog 27 #[.slice A n c] w (OwnCode 5 w (fwrap bs)) := by
  have hl := hb.1
  by_cases hbig : 1400 < n
  · rw [fwrap_no bs (by omega)]
    go_enter Tryz.func27, Tryz.ntmps27
    go_wp2_with fail
    go_ret2
    exact ⟨none, 0, rfl, Own.nil _ _ _, Below.refl _ _⟩
  · rw [fwrap_ok bs (by omega), hl]
    obtain ⟨x, y, htwo, hh, hlo⟩ : ∃ x y, two n = [x, y] ∧ (n : Int) / 256 = (x.toNat : Int) ∧ (n : Int) % 256 = (y.toNat : Int) := ⟨_, _, rfl, byte_hi' n (by omega), byte_lo n⟩
    rw [htwo]
    clear htwo
    go_enter Tryz.func27, Tryz.ntmps27
    go_wp2_with fail
    have hb0 : Below w.heap.size w (w.alloc (.cells (([x, y] : List UInt8).map bv).toArray 5)) := (Below.refl _ _).alloc (Nat.le_refl _) _
    refine (seal_any _ _ _ [x, y] (w.alloc (.cells (([x, y] : List UInt8).map bv).toArray 5)) (BS.fresh w 5 [x, y]) (by simp) (hT.stay hb0)).mono ?_
    rintro e w1 ⟨A1, c1, rfl, hown1, hb1⟩
    have hb01 := hb0.trans (hb1.mono hb0.size)
    go_wp2_with fail
    refine (seal_any _ _ _ bs _ ((hb.below hb01).more hb01.size) (by omega) (hT.stay hb01)).mono ?_
    rintro e w2 ⟨A2, c2, rfl, hown2, hb2⟩
    have hb02 := hb01.trans (hb2.mono hb01.size)
    have hown1' := (hown1.below hb2).mono (hb0.size)
    go_wp2_with (at_builtin; refine wpList_app bt rfl _ _ rfl w.heap.size _ _ _ (sealed [x, y]) rfl hown1' _ _ _ _ (sealed bs) rfl hown2.bs (by omega) hb02.size ?_; intro A3 c3 w3 hown3 hg3 _)
    go_ret2
    have hlen : (sealed [x, y] ++ sealed bs).length = 2 + 4 + (n + 4) := by simp [sealed_len, hl]
    refine ⟨A3, c3, by simp [hlen], ?_, below_of_grown hb02 hb02.size hown1' (Nat.le_refl _) hg3⟩
    rw [hlen]; exact hown3

set_option maxHeartbeats 1000000 in
theorem need_any (A : Option Addr) (n c : Nat) (bs : List UInt8) (w : World) (hb : BS w w.heap.size A n bs) (hn : n ≤ 140737488355300) (hc : n ≤ c) (hT : Nib w) :
    Calls Tryz.prog 55 #[.slice A n c] w (NumCode w (fneed bs)) := by
  have hl := hb.1
  have hk := flen_lt bs
  have hcode := flen_code bs
  have hlen := length_any A n c bs w hb hn hc hT
  unfold fneed
  obtain ⟨k, e⟩ : ∃ r, r = flen bs := ⟨_, rfl⟩
  rw [← e] at hk hcode hlen ⊢
  have He := Lib.hid e
  clear e
  obtain ⟨k, code⟩ := k
  simp only at hk hcode ⊢
  rcases hcode with ⟨rfl, h6⟩ | hbad
  · by_cases hs : bs.length < k + 10
    · have e : (if (0 : Int) = 11 then (6 - bs.length, (0 : Int)) else if (0 : Int) ≠ 0 then (0, 0) else if bs.length < k + 10 then (k + 10 - bs.length, 0) else (0, (ftake bs).2.2)) = (k + 10 - n, 0) := by rw [← hl]; simp [hs]
      rw [e]
      clear e
      have hs1 : decide ((n : Int) < 10 + (k : Int)) = true := by simp; omega
      go_enter Tryz.func55, Tryz.ntmps55
      go_wp2_with fail
      refine hlen.mono ?_
      rintro e w1 ⟨rfl, hb1⟩
      go_wp2_with fail
      refine (size_nat k (by omega) _).mono ?_
      rintro e w' ⟨rfl, rfl⟩
      go_wp2_with fail
      refine (size_nat k (by omega) _).mono ?_
      rintro e w' ⟨rfl, rfl⟩
      go_wp2_with fail
      go_ret2
      refine ⟨?_, hb1⟩
      simp; omega
    · have e : (if (0 : Int) = 11 then (6 - bs.length, (0 : Int)) else if (0 : Int) ≠ 0 then (0, 0) else if bs.length < k + 10 then (k + 10 - bs.length, 0) else (0, (ftake bs).2.2)) = (0, (ftake bs).2.2) := by simp [hs]
      rw [e]
      clear e
      have hs1 : decide ((n : Int) < 10 + (k : Int)) = false := by simp; omega
      go_enter Tryz.func55, Tryz.ntmps55
      go_wp2_with fail
      refine hlen.mono ?_
      rintro e w1 ⟨rfl, hb1⟩
      go_wp2_with fail
      refine (size_nat k (by omega) _).mono ?_
      rintro e w' ⟨rfl, rfl⟩
      go_wp2_with fail
      refine (take_any A n c bs _ ((hb.below hb1).more hb1.size) hn hc (hT.stay hb1)).mono ?_
      rintro e w2 ⟨A2, c2, rfl, hown2, hb2⟩
      go_wp2_with fail
      go_ret2
      exact ⟨rfl, hb1.trans (hb2.mono hb1.size)⟩
  · rcases hbad with ⟨rfl, h6⟩ | ⟨rfl, h6⟩ | ⟨rfl, h6⟩
    · simp only [if_true]
      go_enter Tryz.func55, Tryz.ntmps55
      go_wp2_with fail
      refine hlen.mono ?_
      rintro e w1 ⟨rfl, hb1⟩
      go_wp2_with fail
      go_ret2
      refine ⟨?_, hb1⟩
      simp; omega
    all_goals
      simp only [ne_eq, reduceCtorEq, not_false_eq_true, if_true, if_false]
      go_enter Tryz.func55, Tryz.ntmps55
      go_wp2_with fail
      refine hlen.mono ?_
      rintro e w1 ⟨rfl, hb1⟩
      go_wp2_with fail
      go_ret2
      exact ⟨rfl, hb1⟩

end Go.Proofs.YthhhiiagppckhaaGreatDoor
end

section
namespace Go.Proofs.YthhhiiagppckhaaGreatDoor
open Go.RowKit Go.Proofs.U
set_option linter.unusedVariables false

theorem fwrap_len (p : List UInt8) (h : p.length ≤ 1400) : (fwrap p).1.length = p.length + 10 := by
  rw [fwrap_ok p h, List.length_append, sealed_len, sealed_len, two_len]; omega
theorem flen_front (p r : List UInt8) (h : p.length ≤ 1400) : flen (sealed (two p.length) ++ r) = (p.length, 0) := by
  unfold flen
  rw [if_neg (by simp [sealed_len, two_len]), List.take_append_of_le_length (by simp [sealed_len, two_len]), List.take_of_length_le (by simp [sealed_len, two_len]), opn_sealed]
  show (if 1400 < num2 (UInt8.ofNat (p.length / 256)) (UInt8.ofNat p.length) then _ else _) = _
  rw [num2_two _ (by omega), if_neg (by omega)]
theorem ftake_front (p r : List UInt8) (n : Nat) (hn : p.length = n) (h : n ≤ 1400) (hr : n + 4 ≤ r.length) :
    ftake (sealed (two n) ++ r) = if (opn (r.take (n + 4))).2 ≠ 0 then ([], 0, (opn (r.take (n + 4))).2) else ((opn (r.take (n + 4))).1, n + 10, 0) := by
  subst hn
  unfold ftake
  rw [flen_front p r h]
  simp only [ne_eq, not_true_eq_false, if_false]
  rw [if_neg (by simp [sealed_len, two_len]; omega), show (sealed (two p.length) ++ r).drop 6 = r from by
    rw [List.drop_append_of_le_length (by simp [sealed_len, two_len]), List.drop_of_length_le (by simp [sealed_len, two_len])]; rfl]
theorem ftake_wrap (p r : List UInt8) (h : p.length ≤ 1400) : ftake ((fwrap p).1 ++ r) = (p, p.length + 10, 0) := by
  rw [fwrap_ok p h]
  show ftake (sealed (two p.length) ++ sealed p ++ r) = _
  rw [List.append_assoc, ftake_front p _ _ rfl h (by simp [sealed_len]),
    List.take_append_of_le_length (by simp [sealed_len]), List.take_of_length_le (by simp [sealed_len]), opn_sealed]
  simp

theorem bytes_ext (l m : List UInt8) (hl : l.length = m.length) (h : ∀ k, k < 8 * l.length → Crc.bitAt l k = Crc.bitAt m k) : l = m := by
  apply List.ext_getElem hl
  intro i h1 h2
  apply UInt8.toNat_inj.1
  apply Nat.eq_of_testBit_eq
  intro j
  by_cases hj : j < 8
  · have := h (8 * i + j) (by omega)
    unfold Crc.bitAt at this
    rw [show (8 * i + j) / 8 = i by omega, show (8 * i + j) % 8 = j by omega] at this
    simpa [List.getD, h1, h2] using this
  · have hb : ∀ c : UInt8, c.toNat.testBit j = false := fun c => Nat.testBit_lt_two_pow (Nat.lt_of_lt_of_le c.toNat_lt (Nat.pow_le_pow_right (by omega) (by omega)))
    rw [hb, hb]
theorem bit_take (l : List UInt8) (n k : Nat) (hk : k < 8 * n) : Crc.bitAt (l.take n) k = Crc.bitAt l k := by
  unfold Crc.bitAt
  simp only [List.getD, List.getElem?_take, show k / 8 < n by omega, if_true]
theorem bit_drop (l : List UInt8) (n k : Nat) : Crc.bitAt (l.drop n) k = Crc.bitAt l (k + 8 * n) := by
  unfold Crc.bitAt
  rw [show (k + 8 * n) / 8 = n + k / 8 by omega, show (k + 8 * n) % 8 = k % 8 by omega]
  simp only [List.getD, List.getElem?_drop]
theorem bit_left (l r : List UInt8) (k : Nat) (hk : k < 8 * l.length) : Crc.bitAt (l ++ r) k = Crc.bitAt l k := by
  unfold Crc.bitAt
  simp only [List.getD, List.getElem?_append_left (show k / 8 < l.length by omega)]
theorem bit_right (l r : List UInt8) (k : Nat) : Crc.bitAt (l ++ r) (k + 8 * l.length) = Crc.bitAt r k := by
  unfold Crc.bitAt
  rw [show (k + 8 * l.length) / 8 = l.length + k / 8 by omega, show (k + 8 * l.length) % 8 = k % 8 by omega]
  simp only [List.getD, List.getElem?_append_right (Nat.le_add_right _ _), Nat.add_sub_cancel_left]

/-- of a frame in which bits were turned within 32 in a row, nothing is taken -/
theorem ftake_burst (p r : List UInt8) (first : Nat) (mask : BitVec 32) (h : p.length ≤ 1400) (hf : first + 32 ≤ 8 * (p.length + 10)) (hm : mask ≠ 0#32) :
    ftake (fl (fwrap p).1 first mask 32 ++ r) = ([], 0, 14) := by
  have hF := fwrap_len p h
  obtain ⟨M, hM⟩ : ∃ M, M = fl (fwrap p).1 first mask 32 := ⟨_, rfl⟩
  have hML : M.length = p.length + 10 := by rw [hM, fl_len, hF]
  have hbit : ∀ k, Crc.bitAt M k = (Crc.bitAt (fwrap p).1 k ^^ (decide (first ≤ k) && decide (k < first + 32) && mask.getLsbD (k - first))) := fun k => by
    rw [hM]; exact fl_bit _ _ _ _ (by rw [hF]; exact hf) k
  rw [← hM]
  obtain ⟨g, hg⟩ : ∃ g : Nat → Bool, g = fun k => decide (first ≤ k) && decide (k < first + 32) && mask.getLsbD (k - first) := ⟨_, rfl⟩
  have hbit' : ∀ k, Crc.bitAt M k = (Crc.bitAt (fwrap p).1 k ^^ g k) := fun k => by rw [hbit k, hg]
  have hwin : ∀ k, g k = true → first ≤ k ∧ k < first + 32 := fun k hk => by
    rw [hg] at hk
    simp only [Bool.and_eq_true, decide_eq_true_eq] at hk
    exact hk.1
  have hone : ∃ k, k < 8 * (p.length + 10) ∧ g k = true := by
    obtain ⟨i, hi, hb⟩ := mask_some mask hm
    refine ⟨first + i, by omega, ?_⟩
    rw [hg]; simp [show first + i < first + 32 by omega, show first + i - first = i by omega, hb]
  clear hbit hg hM
  rw [fwrap_ok p h] at hbit'
  simp only at hbit'
  have hS : (sealed (two p.length)).length = 6 := by simp [sealed_len, two_len]
  have hs6 : M.length ≥ 6 := by omega
  have htake : (M ++ r).take 6 = M.take 6 := List.take_append_of_le_length (by omega)
  by_cases hhead : ∃ k, k < 48 ∧ g k = true
  · have ho : opn (M.take 6) = ([], 14) := by
      refine opn_window (two p.length) (M.take 6) (by simp [hS]; omega) g (fun k hk => ?_) first hwin ?_
      · have hk48 : k < 48 := by simp at hk; omega
        rw [bit_take _ _ _ (by omega), hbit' k, bit_left _ _ _ (by rw [hS]; omega)]
      · obtain ⟨k, hk, hgk⟩ := hhead
        exact ⟨k, by simp; omega, hgk⟩
    have hf14 : flen (M ++ r) = (0, 14) := by unfold flen; rw [if_neg (by simp; omega), htake, ho]
    unfold ftake; rw [hf14]; simp
  · have hg48 : ∀ k, k < 48 → g k = false := fun k hk => by
      cases hb : g k
      · rfl
      · exact absurd ⟨k, hk, hb⟩ hhead
    have hMS : M.take 6 = sealed (two p.length) := by
      apply bytes_ext _ _ (by simp [hS]; omega)
      intro k hk
      have hk48 : k < 48 := by simp at hk; omega
      rw [bit_take _ _ _ (by omega), hbit' k, bit_left _ _ _ (by rw [hS]; omega), hg48 k hk48]; simp
    have hsplit : M ++ r = sealed (two p.length) ++ (M.drop 6 ++ r) := by
      rw [← hMS, ← List.append_assoc, List.take_append_drop]
    rw [hsplit, ftake_front p _ _ rfl h (by simp; omega), List.take_append_of_le_length (by simp; omega), List.take_of_length_le (by simp; omega)]
    have ho : opn (M.drop 6) = ([], 14) := by
      refine opn_window p (M.drop 6) (by simp [sealed_len]; omega) (fun k => g (k + 48)) (fun k hk => ?_) (first - 48) (fun k hk => ?_) ?_
      · rw [bit_drop, hbit' (k + 8 * 6)]
        have := bit_right (sealed (two p.length)) (sealed p) k
        rw [hS] at this
        rw [this]
      · have := hwin _ hk; omega
      · obtain ⟨k, hk, hgk⟩ := hone
        have hk48 : 48 ≤ k := by
          rcases Nat.lt_or_ge k 48 with h1 | h1
          · rw [hg48 k h1] at hgk; cases hgk
          · exact h1
        exact ⟨k - 48, by simp; omega, by show g (k - 48 + 48) = true; rw [show k - 48 + 48 = k by omega]; exact hgk⟩
    rw [ho]; simp
end Go.Proofs.YthhhiiagppckhaaGreatDoor
end

section
namespace Go.Proofs.YthhhiiagppckhaaGreatDoor
open Go.RowKit Go.Proofs.U
set_option linter.unusedVariables false

theorem flen_more (a r : List UInt8) (h : 6 ≤ a.length) : flen (a ++ r) = flen a := by
  unfold flen
  rw [List.take_append_of_le_length h, if_neg (by simp; omega), if_neg (by omega)]
/-- bytes that are not yet a frame -/
def Part (a : List UInt8) : Prop := (ftake a).2.2 = 11
theorem ftake_cases (a : List UInt8) : (a.length < 6 ∧ ftake a = ([], 0, 11)) ∨
    (6 ≤ a.length ∧ (flen a).2 ≠ 0 ∧ (flen a).2 ≠ 11 ∧ ftake a = ([], 0, (flen a).2)) ∨
    (6 ≤ a.length ∧ (flen a).2 = 0 ∧ a.length < (flen a).1 + 10 ∧ ftake a = ([], 0, 11)) ∨
    (6 ≤ a.length ∧ (flen a).2 = 0 ∧ (flen a).1 + 10 ≤ a.length ∧ ftake a = ([], 0, 14)) ∨
    (6 ≤ a.length ∧ (flen a).2 = 0 ∧ (flen a).1 + 10 ≤ a.length ∧ ∃ p, opn ((a.drop 6).take ((flen a).1 + 4)) = (p, 0) ∧ ftake a = (p, (flen a).1 + 10, 0)) := by
  rcases flen_code a with ⟨h0, h6⟩ | ⟨h0, h6⟩ | ⟨h0, h6⟩ | ⟨h0, h6⟩
  · obtain ⟨k, hk⟩ : ∃ k, flen a = (k, 0) := ⟨(flen a).1, by rw [← h0]⟩
    by_cases hs : a.length < k + 10
    · right; right; left
      refine ⟨h6, h0, by rw [hk]; exact hs, ?_⟩
      unfold ftake; rw [hk]; simp [hs]
    · rcases opn_code ((a.drop 6).take (k + 4)) (by simp; omega) with ⟨h1, _⟩ | h1
      · right; right; right; right
        refine ⟨h6, h0, by rw [hk]; simpa using hs, _, by rw [hk, ← h1], ?_⟩
        unfold ftake; rw [hk]; simp [hs, h1]
      · right; right; right; left
        refine ⟨h6, h0, by rw [hk]; simpa using hs, ?_⟩
        unfold ftake; rw [hk]; simp [hs, h1]
  · left
    refine ⟨h6, ?_⟩
    unfold ftake; rw [show flen a = ((flen a).1, 11) by rw [← h0]]; simp
  all_goals
    right; left
    refine ⟨h6, by rw [h0]; simp, by rw [h0]; simp, ?_⟩
    unfold ftake; rw [show flen a = ((flen a).1, (flen a).2) from rfl, h0]; simp
theorem ftake_more (a r : List UInt8) (h : ¬ Part a) : ftake (a ++ r) = ftake a := by
  unfold Part at h
  rcases ftake_cases a with ⟨_, h1⟩ | ⟨h6, h1, h2, h3⟩ | ⟨_, _, _, h1⟩ | ⟨h6, h1, h2, h3⟩ | ⟨h6, h1, h2, p, h3, h4⟩
  · rw [h1] at h; simp at h
  · rw [h3]; unfold ftake; rw [flen_more a r h6, show flen a = ((flen a).1, (flen a).2) from rfl]; simp [h1]
  · rw [h1] at h; simp at h
  all_goals
    obtain ⟨k, hk⟩ : ∃ k, flen a = (k, 0) := ⟨(flen a).1, by rw [← h1]⟩
    rw [hk] at h2
    unfold ftake
    rw [flen_more a r h6, hk]
    simp only at h2 ⊢
    rw [List.drop_append_of_le_length h6, List.take_append_of_le_length (by simp; omega)]
    simp only [ne_eq, not_true_eq_false, if_false, show ¬ (a ++ r).length < k + 10 by simp; omega, show ¬ a.length < k + 10 by omega]
theorem part_nil : Part [] := by
  rcases ftake_cases [] with ⟨_, h1⟩ | ⟨h6, _⟩ | ⟨h6, _⟩ | ⟨h6, _⟩ | ⟨h6, _⟩
  · unfold Part; rw [h1]
  all_goals simp at h6
theorem part_need (a : List UInt8) (h : Part a) : ∃ k, fneed a = (k, 0) ∧ 1 ≤ k ∧ a.length + k ≤ 1410 ∧ ∀ x p n, x.length ≤ k → ftake (a ++ x) = (p, n, 0) → n = (a ++ x).length := by
  unfold Part at h
  rcases ftake_cases a with ⟨h6, h1⟩ | ⟨h6, h1, h2, h3⟩ | ⟨h6, h1, h2, h3⟩ | ⟨h6, h1, h2, h3⟩ | ⟨h6, h1, h2, p, h3, h4⟩
  · refine ⟨6 - a.length, ?_, by omega, by omega, fun x p n hx hp => ?_⟩
    · unfold fneed; rw [show flen a = (0, 11) by unfold flen; rw [if_pos h6]]; simp
    · rcases ftake_cases (a ++ x) with ⟨_, g⟩ | ⟨_, g1, _, g⟩ | ⟨_, _, _, g⟩ | ⟨_, _, _, g⟩ | ⟨_, _, g2, p, g3, g⟩
      · rw [g] at hp; simp at hp
      · rw [g] at hp; simp at hp; exact absurd hp.2.2 g1
      · rw [g] at hp; simp at hp
      · rw [g] at hp; simp at hp
      · simp at g2; omega
  · rw [h3] at h; exact absurd h h2
  · have hk := flen_lt a
    obtain ⟨k, hk0⟩ : ∃ k, flen a = (k, 0) := ⟨(flen a).1, by rw [← h1]⟩
    rw [hk0] at h2 hk
    simp only at h2 hk
    refine ⟨k + 10 - a.length, ?_, by omega, by omega, fun x p n hx hp => ?_⟩
    · unfold fneed; rw [hk0]; simp [h2]
    · have hf := flen_more a x h6
      rw [hk0] at hf
      rcases ftake_cases (a ++ x) with ⟨_, g⟩ | ⟨_, g1, _, g⟩ | ⟨_, _, _, g⟩ | ⟨_, _, _, g⟩ | ⟨_, _, g2, q, g3, g⟩
      · rw [g] at hp; simp at hp
      · rw [g] at hp; simp at hp; exact absurd hp.2.2 g1
      · rw [g] at hp; simp at hp
      · rw [g] at hp; simp at hp
      · rw [g, hf] at hp
        rw [hf] at g2
        simp only [Prod.mk.injEq, and_true] at hp
        simp only [List.length_append] at g2 ⊢
        omega
  · rw [h3] at h; simp at h
  · rw [h4] at h; simp at h
theorem part_lt (a : List UInt8) (h : Part a) : a.length < 1410 := by
  obtain ⟨k, _, h1, h2, _⟩ := part_need a h; omega

/-- what is taken of bytes, one behind the other; what is left over; the error's number -/
inductive Goes : List UInt8 → List (List UInt8) → List UInt8 → Int → Prop
  | stop {a} : Part a → Goes a [] a 0
  | bad {a e} : (ftake a).2.2 = e → e ≠ 0 → e ≠ 11 → Goes a [] [] e
  | more {a p n out r e} : ftake a = (p, n, 0) → Goes (a.drop n) out r e → Goes a (p :: out) r e
theorem ftake_pos {a p : List UInt8} {n : Nat} (h : ftake a = (p, n, 0)) : 10 ≤ n ∧ n ≤ a.length ∧ n = p.length + 10 := by
  rcases ftake_cases a with ⟨h6, h1⟩ | ⟨h6, h1, h2, h3⟩ | ⟨h6, h1, h2, h3⟩ | ⟨h6, h1, h2, h3⟩ | ⟨h6, h1, h2, q, h3, h4⟩
  · rw [h1] at h; simp at h
  · rw [h3] at h; simp at h; exact absurd h.2.2 h1
  · rw [h3] at h; simp at h
  · rw [h3] at h; simp at h
  · rw [h4] at h
    simp only [Prod.mk.injEq, and_true] at h
    obtain ⟨rfl, rfl⟩ := h
    refine ⟨by omega, h2, ?_⟩
    rcases opn_code ((a.drop 6).take ((flen a).1 + 4)) (by simp; omega) with ⟨g1, _, g3⟩ | g1
    · rw [h3] at g3
      simp only [List.length_take, List.length_drop] at g3
      omega
    · rw [h3] at g1; simp at g1
theorem Goes.det {a : List UInt8} {o r e o' r' e'} (h : Goes a o r e) (h' : Goes a o' r' e') : o = o' ∧ r = r' ∧ e = e' := by
  induction h generalizing o' r' e' with
  | stop h1 =>
    cases h' with
    | stop h2 => exact ⟨rfl, rfl, rfl⟩
    | bad h2 h3 h4 => exact absurd (h2.symm.trans h1) h4
    | more h2 _ => unfold Part at h1; rw [h2] at h1; simp at h1
  | bad h1 h2 h3 =>
    cases h' with
    | stop h4 => exact absurd (h1.symm.trans h4) h3
    | bad h4 _ _ => exact ⟨rfl, rfl, h1.symm.trans h4⟩
    | more h4 _ => rw [h4] at h1; exact absurd h1.symm h2
  | more h1 _ ih =>
    cases h' with
    | stop h2 => unfold Part at h2; rw [h1] at h2; simp at h2
    | bad h2 h3 _ => rw [h1] at h2; exact absurd h2.symm h3
    | more h2 h3 =>
      rw [h1] at h2
      simp only [Prod.mk.injEq, and_true] at h2
      obtain ⟨rfl, rfl⟩ := h2
      obtain ⟨rfl, rfl, rfl⟩ := ih h3
      exact ⟨rfl, rfl, rfl⟩
theorem Goes.all (a : List UInt8) : ∃ o r e, Goes a o r e := by
  induction hn : a.length using Nat.strongRecOn generalizing a with
  | _ n ih =>
    obtain ⟨p, m, e, he⟩ : ∃ p m e, ftake a = (p, m, e) := ⟨_, _, _, rfl⟩
    by_cases h0 : e = 0
    · subst h0
      have hp := ftake_pos he
      obtain ⟨o, r, e, hg⟩ := ih (a.drop m).length (by simp; omega) (a.drop m) rfl
      exact ⟨_, _, _, .more he hg⟩
    · by_cases h1 : e = 11
      · subst h1; exact ⟨_, _, _, .stop (by unfold Part; rw [he])⟩
      · exact ⟨_, _, _, .bad (by rw [he]) h0 h1⟩
theorem Goes.part {a : List UInt8} {o r e} (h : Goes a o r e) : Part r := by
  induction h with
  | stop h => exact h
  | bad => exact part_nil
  | more _ _ ih => exact ih
end Go.Proofs.YthhhiiagppckhaaGreatDoor
end
