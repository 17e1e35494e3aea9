/- The walk of Say; conditions: none beyond its hypotheses. -/
import Derived.Test.YthhhiiagppckhaaGreatDoorMgLn1
import Derived.Test.YthhhiiagppckhaaGreatDoorMgMs12
set_option linter.unusedSimpArgs false
set_option linter.unusedVariables false
section
namespace Go.Proofs.YthhhiiagppckhaaGreatDoor
open Go.RowKit Go.Proofs.U Go.Proofs.Bp
set_option linter.unusedVariables false

/-- what is said of a message: its frame, or an error -/
def sayB (m : Ms.Msg) : List UInt8 := if Ms.check m = 0 then sealed (two (Ms.enc m).length) ++ sealed (Ms.enc m) else []
def sayE (m : Ms.Msg) : Er := if Ms.check m = 0 then .nil else .one [115, 97, 121] [] (.code (Ms.check m : Int))
def SayRet (w : World) (m : Ms.Msg) (e : Ending) (w' : World) : Prop :=
  ∃ A c v, e = .returned (.tuple #[.slice A (sayB m).length c, v]) ∧ Own w' w.heap.size 5 A (sayB m).length c (sayB m) ∧ ErV w' (sayE m) v ∧ Below w.heap.size w w'
set_option maxRecDepth 100000 in
set_option maxHeartbeats 4000000 in
theorem say_any (g : Nat) (P : List UInt8) (B0 : Nat) (m : Ms.Msg) (v : Value) (w : World) (h : MsgV w B0 m v) (hr : m.rows.length ≤ 1000000000) (hwf : Ms.Wf m) (hlen : (Ms.enc m).length ≤ 1400 ∨ Ms.check m ≠ 0) (hk : Ink w g P 0) (hT : Nib w) :
    Calls Tryz.prog 15 #[.pointer (some ⟨g, 0, none⟩), v] w (SayRet w m) := by
  have hv := h
  obtain ⟨A, c, A2, c2, rfl, ha1, ha2, ha3, ha4⟩ := h
  have hw1 : ∃ w1, w1 = (w.alloc (.cells (mCells m A c A2 c2) 27)) := ⟨_, rfl⟩
  have hk1 : Blk (w.alloc (.cells (mCells m A c A2 c2) 27)) w.heap.size 27 (mCells m A c A2 c2) := Blk.new w _ _
  have hb1 := alloc_b w (.cells (mCells m A c A2 c2) 27)
  have hv1 := hv.below hb1
  have hi1 := hk.below hb1
  simp only [mCells] at hw1 hb1 hk1 hv1 hi1 ⊢
  obtain ⟨w1, hw1⟩ := hw1
  have hW := mwrite_any B0 m _ w1 (by rw [hw1]; exact hv1) hr hwf
  unfold WriteRet at hW
  obtain ⟨X, hX⟩ : ∃ X, X = wrM m := ⟨_, rfl⟩
  obtain ⟨CK, hCK⟩ : ∃ CK, CK = Ms.check m := ⟨_, rfl⟩
  rw [← hX, ← hCK] at hW
  rw [← hw1] at hb1 hk1 hi1
  obtain ⟨SB, hSB⟩ : ∃ SB, SB = sayB m := ⟨_, rfl⟩
  obtain ⟨SE, hSE⟩ : ∃ SE, SE = sayE m := ⟨_, rfl⟩
  unfold SayRet
  rw [← hSB, ← hSE]
  have HS := Lib.hid (And.intro hSB hSE)
  clear hSB hSE
  have HX := Lib.hid (And.intro hX hCK)
  have HW := Lib.hid hW
  clear hW hX hCK
  go_enter Tryz.func15, Tryz.ntmps15
  go_wp2_with fail
  rw [← hw1]
  refine (refuse_open g P 0 _ w1 hi1).mono ?_
  rintro e wq ⟨rfl, hwq⟩
  have hwq2 := hwq.symm
  clear hwq
  subst hwq2
  obtain ⟨x0, x1, x2, x3, x4, x5, x6, x7, x8, x9, x10, x11, x12, x13, x14, x15⟩ := msg_cells (A := A) (c := c) (A2 := A2) (c2 := c2) hk1
  have HL := Lib.hid hlen
  clear hv1 hw1 hlen
  by_cases h0 : CK = 0
  · subst h0
    go_wp2_with fail
    refine HW.out.mono ?_
    rintro e w2 ⟨A3, c3, rfl, hown3, hb3⟩
    have hbw3 := hb1.trans (hb3.mono hb1.size)
    have hXe : X = Ms.enc m := by rw [HX.out.1, wrM, if_pos HX.out.2.symm]
    have hXl : X.length ≤ 1400 := by
      rcases HL.out with h | h
      · rw [hXe]; exact h
      · exact absurd HX.out.2.symm h
    have hFW := fwrap_any A3 X.length c3 X w2 hown3.bs (by omega) (hT.stay hbw3)
    rw [fwrap_ok X hXl] at hFW
    have hSB : SB = sealed (two X.length) ++ sealed X := by rw [HS.out.1]; unfold sayB; rw [if_pos HX.out.2.symm, hXe]
    have hSE : SE = .nil := by rw [HS.out.2]; unfold sayE; rw [if_pos HX.out.2.symm]
    rw [← hSB] at hFW
    subst hSE
    unfold OwnCode at hFW
    simp only at hFW
    have HFW := Lib.hid hFW
    clear hFW hSB hXe
    have htz := fun W => told_zero [115, 97, 121] W
    go_wp2_with fail
    refine HFW.out.mono ?_
    rintro e w4 ⟨A4, c4, rfl, hown4, hb4⟩
    have hbw4 := hbw3.trans (hb4.mono hbw3.size)
    go_wp2_with fail
    refine (htz _).mono ?_
    rintro e w5 ⟨v5, rfl, hv5, hb5⟩
    go_wp2_with fail
    go_ret2
    exact ⟨A4, c4, v5, rfl, World.ownsRow.mono (hown4.below hb5) hbw3.size, hv5, hbw4.trans (hb5.mono hbw4.size)⟩
  · have hff : ((CK : Int) == 0) = false := by rw [beq_eq_false_iff_ne]; omega
    have hff2 : ((CK : Int) != 0) = true := by rw [bne_iff_ne]; omega
    have htc := fun W => told_code (N := fun _ => True) (CK : Int) (by omega) [115, 97, 121] W (fun _ _ => trivial)
    have hc0 : ¬ Ms.check m = 0 := by rw [← HX.out.2]; exact h0
    have hSB : SB = [] := by rw [HS.out.1]; unfold sayB; rw [if_neg hc0]
    have hSE : SE = .one [115, 97, 121] [] (.code (CK : Int)) := by rw [HS.out.2]; unfold sayE; rw [if_neg hc0, HX.out.2]
    subst hSB
    rw [← hSE] at htc
    clear hSE hc0
    go_wp2_with fail
    refine HW.out.mono ?_
    rintro e w2 ⟨A3, c3, rfl, hown3, hb3⟩
    have hbw3 := hb1.trans (hb3.mono hb1.size)
    go_wp2_with fail
    refine (htc _).mono ?_
    rintro e w5 ⟨v5, rfl, hv5, hb5⟩
    go_wp2_with fail
    go_ret2
    exact ⟨none, 0, v5, rfl, World.ownsRow_nil _ _ _ _, hv5, hbw3.trans (hb5.mono hbw3.size)⟩
end Go.Proofs.YthhhiiagppckhaaGreatDoor
end
