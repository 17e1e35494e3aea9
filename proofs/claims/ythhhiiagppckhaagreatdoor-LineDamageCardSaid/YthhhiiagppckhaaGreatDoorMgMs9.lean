/- The walks of msg.bounds and msg.lengths; conditions: none beyond their hypotheses. -/
import Derived.Test.YthhhiiagppckhaaGreatDoorMgMs8
set_option linter.unusedSimpArgs false
set_option linter.unusedVariables false
section
namespace Go.Proofs.YthhhiiagppckhaaGreatDoor
open Go.RowKit Go.Proofs.U
set_option linter.unusedVariables false

def rowBad (x : Ms.Rw) : Bool := !(Ms.inb x.kind 2 && Ms.inb x.size 4096)
def rowLong (x : Ms.Rw) : Bool := decide (96 < x.path.length)
set_option maxHeartbeats 1000000 in
theorem clo_bounds (x : Ms.Rw) (w : World) : Calls Tryz.prog 79 #[.agg (rwCells x).toArray] w fun e w' => e = .returned (.bool (rowBad x)) ∧ Below w.heap.size w w' := by
  simp only [rwCells]
  go_enter Tryz.func79, Tryz.ntmps79
  go_wp2_with fail
  all_goals
    go_ret
    refine ⟨congrArg (fun b => Ending.returned (Value.bool b)) (?_ : (_ : Bool) = rowBad x), alloc_b _ _⟩
    unfold rowBad Ms.inb
    rw [Bool.eq_iff_iff]
    simp
    omega
set_option maxHeartbeats 1000000 in
theorem clo_lengths (x : Ms.Rw) (w : World) : Calls Tryz.prog 80 #[.agg (rwCells x).toArray] w fun e w' => e = .returned (.bool (rowLong x)) ∧ Below w.heap.size w w' := by
  simp only [rwCells]
  go_enter Tryz.func80, Tryz.ntmps80
  go_wp2_with fail
  go_ret
  refine ⟨congrArg (fun b => Ending.returned (Value.bool b)) (?_ : (_ : Bool) = rowLong x), alloc_b _ _⟩
  unfold rowLong
  rw [Bool.eq_iff_iff, str_size]
  simp
  omega
set_option maxHeartbeats 2000000 in
theorem idx_bounds (A : Option Addr) (c B0 : Nat) (l : List Ms.Rw) (hl : l.length ≤ 1000000000) (w : World) (h : RwS w B0 A l) :
    Calls Tryz.prog 85 #[.slice A l.length c, .func (.func 79) #[] #[]] w fun e w' => ∃ r : Int, e = .returned (.int .i64 r) ∧ (0 ≤ r ↔ l.any rowBad = true) ∧ Below w.heap.size w w' := by
  go_enter Tryz.func85, Tryz.ntmps85
  go_wp2_with fail
  go_loopg [5, 8] l.length (fun r i j wr => ∃ k : Nat, r + k = l.length ∧ j = .int .i64 k ∧ (l.take k).any rowBad = false ∧ Below w.heap.size w wr)
  case atStart => exact ⟨0, rfl, rfl, rfl, Below.refl _ _⟩
  case round =>
    obtain ⟨k, hgk, rfl, hp, hbw⟩ := hrel
    have HGK := Lib.hid hgk
    by_cases hlt : k < l.length
    · clear hgk
      obtain ⟨x, hx⟩ : ∃ x, l[k]? = some x := ⟨_, List.getElem?_eq_getElem hlt⟩
      obtain ⟨b1, o1, rfl, hb1, r1⟩ := RwS.at_ (h.kept (kept_below hbw)) hx
      have p0 := r1 0 _ rfl
      have p1 := r1 1 _ rfl
      have p2 := r1 2 _ rfl
      have p3 := r1 3 _ rfl
      have p4 := r1 4 _ rfl
      rw [Nat.add_zero] at p0
      have hf' := fun w' => clo_bounds x w'
      simp only [rwCells] at hf'
      have HK := Lib.hid (And.intro hx hp)
      clear r1 hx hp
      obtain ⟨px, hpx⟩ : ∃ px, px = rowBad x := ⟨_, rfl⟩
      rw [← hpx] at hf'
      have HP := Lib.hid hpx
      clear hpx
      have hbs := hbw.size
      cases px with
      | true =>
        go_wp2_with (go_at_call 79; refine (hf' _).mono ?_; rintro e w2 ⟨rfl, hb2⟩)
        go_ret
        refine ⟨k, rfl, ?_, hbw.trans (hb2.mono hbs)⟩
        have h1 : l.any rowBad = true := List.any_eq_true.2 ⟨x, List.mem_of_getElem? HK.out.1, HP.out.symm⟩
        simp [h1]
      | false =>
        go_wp2_with (go_at_call 79; refine (hf' _).mono ?_; rintro e w2 ⟨rfl, hb2⟩)
        go_roundg (gk - 1)
        case measure => have := HGK.out; omega
        case rel =>
          refine ⟨k + 1, by have := HGK.out; omega, by go_num, ?_, hbw.trans (hb2.mono hbs)⟩
          rw [List.take_add_one, HK.out.1, List.any_append, HK.out.2, Bool.false_or]
          simp [← HP.out]
    · obtain rfl : k = l.length := by omega
      clear hgk
      go_wp2_with fail
      go_ret
      refine ⟨-1, rfl, ?_, hbw⟩
      rw [List.take_length] at hp
      simp [hp]
set_option maxHeartbeats 2000000 in
theorem cont_bounds (A : Option Addr) (c B0 : Nat) (l : List Ms.Rw) (hl : l.length ≤ 1000000000) (w : World) (h : RwS w B0 A l) :
    Calls Tryz.prog 78 #[.slice A l.length c, .func (.func 79) #[] #[]] w fun e w' => e = .returned (.bool (l.any rowBad)) ∧ Below w.heap.size w w' := by
  go_enter Tryz.func78, Tryz.ntmps78
  go_wp2_with fail
  refine (idx_bounds A c B0 l hl w h).mono ?_
  rintro e w2 ⟨r, rfl, hr, hb⟩
  go_wp2_with fail
  go_ret
  refine ⟨congrArg (fun b => Ending.returned (Value.bool b)) (?_ : (_ : Bool) = l.any rowBad), hb⟩
  rw [Bool.eq_iff_iff]
  simp
set_option maxHeartbeats 2000000 in
theorem idx_lengths (A : Option Addr) (c B0 : Nat) (l : List Ms.Rw) (hl : l.length ≤ 1000000000) (w : World) (h : RwS w B0 A l) :
    Calls Tryz.prog 85 #[.slice A l.length c, .func (.func 80) #[] #[]] w fun e w' => ∃ r : Int, e = .returned (.int .i64 r) ∧ (0 ≤ r ↔ l.any rowLong = true) ∧ Below w.heap.size w w' := by
  go_enter Tryz.func85, Tryz.ntmps85
  go_wp2_with fail
  go_loopg [5, 8] l.length (fun r i j wr => ∃ k : Nat, r + k = l.length ∧ j = .int .i64 k ∧ (l.take k).any rowLong = false ∧ Below w.heap.size w wr)
  case atStart => exact ⟨0, rfl, rfl, rfl, Below.refl _ _⟩
  case round =>
    obtain ⟨k, hgk, rfl, hp, hbw⟩ := hrel
    have HGK := Lib.hid hgk
    by_cases hlt : k < l.length
    · clear hgk
      obtain ⟨x, hx⟩ : ∃ x, l[k]? = some x := ⟨_, List.getElem?_eq_getElem hlt⟩
      obtain ⟨b1, o1, rfl, hb1, r1⟩ := RwS.at_ (h.kept (kept_below hbw)) hx
      have p0 := r1 0 _ rfl
      have p1 := r1 1 _ rfl
      have p2 := r1 2 _ rfl
      have p3 := r1 3 _ rfl
      have p4 := r1 4 _ rfl
      rw [Nat.add_zero] at p0
      have hf' := fun w' => clo_lengths x w'
      simp only [rwCells] at hf'
      have HK := Lib.hid (And.intro hx hp)
      clear r1 hx hp
      obtain ⟨px, hpx⟩ : ∃ px, px = rowLong x := ⟨_, rfl⟩
      rw [← hpx] at hf'
      have HP := Lib.hid hpx
      clear hpx
      have hbs := hbw.size
      cases px with
      | true =>
        go_wp2_with (go_at_call 80; refine (hf' _).mono ?_; rintro e w2 ⟨rfl, hb2⟩)
        go_ret
        refine ⟨k, rfl, ?_, hbw.trans (hb2.mono hbs)⟩
        have h1 : l.any rowLong = true := List.any_eq_true.2 ⟨x, List.mem_of_getElem? HK.out.1, HP.out.symm⟩
        simp [h1]
      | false =>
        go_wp2_with (go_at_call 80; refine (hf' _).mono ?_; rintro e w2 ⟨rfl, hb2⟩)
        go_roundg (gk - 1)
        case measure => have := HGK.out; omega
        case rel =>
          refine ⟨k + 1, by have := HGK.out; omega, by go_num, ?_, hbw.trans (hb2.mono hbs)⟩
          rw [List.take_add_one, HK.out.1, List.any_append, HK.out.2, Bool.false_or]
          simp [← HP.out]
    · obtain rfl : k = l.length := by omega
      clear hgk
      go_wp2_with fail
      go_ret
      refine ⟨-1, rfl, ?_, hbw⟩
      rw [List.take_length] at hp
      simp [hp]
set_option maxHeartbeats 2000000 in
theorem cont_lengths (A : Option Addr) (c B0 : Nat) (l : List Ms.Rw) (hl : l.length ≤ 1000000000) (w : World) (h : RwS w B0 A l) :
    Calls Tryz.prog 78 #[.slice A l.length c, .func (.func 80) #[] #[]] w fun e w' => e = .returned (.bool (l.any rowLong)) ∧ Below w.heap.size w w' := by
  go_enter Tryz.func78, Tryz.ntmps78
  go_wp2_with fail
  refine (idx_lengths A c B0 l hl w h).mono ?_
  rintro e w2 ⟨r, rfl, hr, hb⟩
  go_wp2_with fail
  go_ret
  refine ⟨congrArg (fun b => Ending.returned (Value.bool b)) (?_ : (_ : Bool) = l.any rowLong), hb⟩
  rw [Bool.eq_iff_iff]
  simp
end Go.Proofs.YthhhiiagppckhaaGreatDoor
end
