/- The walk of LineNobody; conditions: none beyond its hypotheses. -/
import Derived.Test.YthhhiiagppckhaaDoorMgLn7
import Derived.Test.YthhhiiagppckhaaDoorMgLn6
import Derived.Test.YthhhiiagppckhaaDoorMgMs13
set_option linter.unusedSimpArgs false
set_option linter.unusedVariables false
section
namespace Go.Proofs.YthhhiiagppckhaaDoor
open Go.RowKit Go.Proofs.U Go.Proofs.Bp
set_option linter.unusedVariables false

def Yes33 (w : World) (e : Ending) (w' : World) : Prop := e = .returned (.bool true) ∧ Below w.heap.size w w'
set_option maxRecDepth 100000 in
set_option maxHeartbeats 8000000 in
theorem lineNobody_any (A0 : Option Addr) (n0 c0 : Nat) (b0 : List UInt8) (v : Value) (m : Ms.Msg) (w : World) (hb : BS w w.heap.size A0 n0 b0) (h : MsgV w w.heap.size m v) (hbig : Ms.Big m) (hT : Nib w) (hE : ErrT w) :
    Calls Tryd.prog 9 #[.slice A0 n0 c0, v] w (Yes33 w) := by
  have hv := h
  obtain ⟨A, c, A2, c2, rfl, -⟩ := h
  have hw1 : ∃ w1, w1 = (w.alloc (.cells (mCells m A c A2 c2) 27)) := ⟨_, rfl⟩
  have hk1 : Blk (w.alloc (.cells (mCells m A c A2 c2) 27)) w.heap.size 27 (mCells m A c A2 c2) := Blk.new w _ _
  have hb1 := alloc_b w (.cells (mCells m A c A2 c2) 27)
  have hlt := fun W (h' : MsgV W w.heap.size m (.agg (mCells m A c A2 c2))) => light15_any w.heap.size m _ W h' hbig
  have hsn := fun W => sayNone_any m A c A2 c2 W
  obtain ⟨lm, hlm⟩ : ∃ lm, lm = lightM m := ⟨_, rfl⟩
  rw [← hlm] at hlt
  clear hlm
  simp only [mCells] at hw1 hb1 hk1 hsn ⊢
  obtain ⟨w1, hw1⟩ := hw1
  by_cases h1000 : (1000 : Int) < (n0 : Int)
  · go_enter Tryd.func9, Tryd.ntmps9
    go_wp2_with fail
    rw [← hw1] at hb1 hk1 ⊢
    refine (lives33_any _ (hT.stay hb1)).mono ?_
    rintro e w7 ⟨rfl, hb7⟩
    go_wp2_with fail
    go_ret
    exact ⟨rfl, hb1.trans (hb7.mono hb1.size)⟩
  · cases lm with
    | false =>
      go_enter Tryd.func9, Tryd.ntmps9
      go_wp2_with fail
      rw [← hw1] at hb1 hk1 ⊢
      refine (hlt w1 (hv.below hb1)).mono ?_
      rintro e w2 ⟨rfl, hb2⟩
      have hb12 := hb1.trans (hb2.mono hb1.size)
      go_wp2_with fail
      refine (lives33_any _ (hT.stay hb12)).mono ?_
      rintro e w7 ⟨rfl, hb7⟩
      go_wp2_with fail
      go_ret
      exact ⟨rfl, hb12.trans (hb7.mono hb12.size)⟩
    | true =>
      go_enter Tryd.func9, Tryd.ntmps9
      go_wp2_with fail
      rw [← hw1] at hb1 hk1 ⊢
      refine (hlt w1 (hv.below hb1)).mono ?_
      rintro e w2 ⟨rfl, hb2⟩
      have hb12 := hb1.trans (hb2.mono hb1.size)
      have hk2 := hk1.stay hb2
      clear hlt hw1 hk1
      go_wp2_with fail
      refine (openNil_any _).mono ?_
      rintro e wq ⟨rfl, rfl⟩
      go_wp2_with fail
      refine (shutNil_any _).mono ?_
      rintro e wq ⟨rfl, rfl⟩
      go_wp2_with fail
      refine (feedNone_any _ _).mono ?_
      rintro e w3 ⟨v3, rfl, hv3, hb3⟩
      have hb13 := hb12.trans (hb3.mono hb12.size)
      have hk3 := hk2.stay hb3
      obtain ⟨x0, x1, x2, x3, x4, x5, x6, x7, x8, x9, x10, x11, x12, x13, x14, x15⟩ := msg_cells (A := A) (c := c) (A2 := A2) (c2 := c2) hk3
      clear hk2
      go_wp2_with fail
      refine (hsn _).mono ?_
      rintro e w4 ⟨v4, rfl, hv4, hb4⟩
      have hb14 := hb13.trans (hb4.mono hb13.size)
      have hv34 := ErV.below hb4 hv3
      have hE4 := hE.below hb14
      clear x0 x1 x2 x3 x4 x5 x6 x7 x8 x9 x10 x11 x12 x13 x14 x15 hk3 hv3
      go_wp2_with fail
      refine (right_code 1 (by decide) _ _ v3 _ hv34 hE4).mono ?_
      rintro e w5 ⟨rfl, hb5⟩
      have hb15 := hb14.trans (hb5.mono hb14.size)
      have hv45 := ErV.below hb5 hv4
      have hE5 := hE.below hb15
      go_wp2_with fail
      refine (right_code 1 (by decide) _ _ v4 _ hv45 hE5).mono ?_
      rintro e w6 ⟨rfl, hb6⟩
      have hb16 := hb15.trans (hb6.mono hb15.size)
      go_wp2_with fail
      refine (closedNil_any _).mono ?_
      rintro e wq ⟨rfl, hwq⟩
      have hwq2 := hwq.symm
      clear hwq
      subst hwq2
      go_wp2_with fail
      refine (lheldNil_any _).mono ?_
      rintro e wq ⟨rfl, hwq⟩
      have hwq2 := hwq.symm
      clear hwq
      subst hwq2
      go_wp2_with fail
      refine (faultNil_any _).mono ?_
      rintro e w7 ⟨v7, rfl, hv7, hb7⟩
      have hb17 := hb16.trans (hb7.mono hb16.size)
      go_wp2_with fail
      refine (right_code 1 (by decide) _ _ v7 _ hv7 (hE.below hb17)).mono ?_
      rintro e w8 ⟨rfl, hb8⟩
      have hb18 := hb17.trans (hb8.mono hb17.size)
      go_wp2_with fail
      refine (lives33_any _ (hT.stay hb18)).mono ?_
      rintro e w9 ⟨rfl, hb9⟩
      go_wp2_with fail
      go_ret
      exact ⟨rfl, hb18.trans (hb9.mono hb18.size)⟩
end Go.Proofs.YthhhiiagppckhaaDoor
end
