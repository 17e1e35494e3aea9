/- The walks of the statements of layer 4: CheckSums. -/
import Derived.Test.YtaaajmonabhdgaaDoorCk
import Derived.Lib.SlBytesConst
namespace Go.Proofs.YtaaajmonabhdgaaDoor
open Go.RowKit Go.Proofs.U
set_option linter.unusedVariables false

def NINE : List UInt8 := [49, 50, 51, 52, 53, 54, 55, 56, 57]
theorem crc_nine : ((Crc.more 0#32 NINE).toNat : Int) = 3808858755 := by decide +kernel
theorem crc_none : ((Crc.more 0#32 []).toNat : Int) = 0 := by decide +kernel

/-- the call answers true, and leaves what was there -/
def Yes (w : World) (e : Ending) (w' : World) : Prop := e = .returned (.bool true) ∧ Below w.heap.size w w'

def nine (w : World) : World := w.alloc (.cells (NINE.map bv).toArray 5 (9, 10))
set_option maxHeartbeats 400000 in
theorem lives04 (w : World) (hT : Nib w) (hg : 0 < w.heap.size) : Calls Tryd.prog 13 #[] w (Yes w) := by
  have k1 := crc_nine
  have k2 := crc_none
  have hb1 : Below w.heap.size w (nine w) := (Below.refl _ _).alloc (Nat.le_refl _) _
  have hT1 : Nib (nine w) := hT.below hb1 hg
  have kc := fun (w : World) (C : Array Value) (n c : Nat) => Lib.run_convert_bytes_const (P := Tryd.prog) w 23 5 C n c Tryd.underlying23 Tryd.underlying5
  go_enter Tryd.func13, Tryd.ntmps13
  go_wp2_with fail
  refine (sum_any _ 9 9 NINE (nine w) (w.heap.size + 1) (BS.new w 5 NINE (9, 10)) (by decide) hT1).mono ?_
  rintro e w' ⟨rfl, rfl⟩
  go_wp2_with fail
  refine (sum_any _ 0 0 [] (nine w) 0 (BS.nil _ _ _) (by decide) hT1).mono ?_
  rintro e w' ⟨rfl, rfl⟩
  go_wp2_with fail
  refine (seal_any _ 0 0 [] (nine w) (BS.nil _ _ _) (by decide) hT1).mono ?_
  rintro e w' ⟨A, c, rfl, hown, hb2⟩
  go_wp2_with fail
  go_ret
  exact ⟨by simp, hb1.trans (hb2.mono hb1.size)⟩

set_option maxHeartbeats 400000 in
theorem checkSums_any (s : BitVec 32) (A : Option Addr) (n c : Nat) (bs : List UInt8) (w : World) (hb : BS w w.heap.size A n bs) (hn : n ≤ maxLen) (hT : Nib w) (hg : 0 < w.heap.size) :
    Calls Tryd.prog 3 #[.int .u32 (s.toNat : Int), .slice A n c] w (Yes w) := by
  have hm := hn
  unfold maxLen at hm
  by_cases hl : n ≤ 1000
  · go_enter Tryd.func3, Tryd.ntmps3
    go_wp2_with fail
    refine (sum_any _ _ _ bs _ _ hb hn hT).mono ?_
    rintro e w' ⟨rfl, rfl⟩
    go_wp2_with fail
    refine (rsum_any _ _ _ bs _ _ hb hn).mono ?_
    rintro e w' ⟨rfl, rfl⟩
    go_wp2_with fail
    refine (more_any s _ _ _ bs _ _ hb hn hT).mono ?_
    rintro e w' ⟨rfl, rfl⟩
    go_wp2_with fail
    refine (rmore_any s _ _ _ bs _ _ hb hn).mono ?_
    rintro e w' ⟨rfl, rfl⟩
    go_wp2_with fail
    refine (seal_any _ _ _ bs _ hb (by omega) hT).mono ?_
    rintro e w1 ⟨A1, c1, rfl, hown1, hb1⟩
    go_wp2_with fail
    refine (rseal_any _ _ _ bs _ ((hb.below hb1).more hb1.size) (by omega)).mono ?_
    rintro e w2 ⟨A2, c2, rfl, hown2, hb2⟩
    go_wp2_with fail
    refine (same_any _ _ _ (sealed bs) _ _ _ (sealed bs) _ _ _ (hown1.below hb2).bs hown2.bs).mono ?_
    rintro e w' ⟨rfl, rfl⟩
    have hb3 : Below w.heap.size w w2 := hb1.trans (hb2.mono hb1.size)
    go_wp2_with fail
    refine (lives04 _ (hT.below hb3 hg) (Nat.lt_of_lt_of_le hg hb3.size)).mono ?_
    rintro e w4 ⟨rfl, hb4⟩
    go_wp2_with fail
    go_ret
    exact ⟨by simp, hb3.trans (hb4.mono hb3.size)⟩
  · go_enter Tryd.func3, Tryd.ntmps3
    go_wp2_with fail
    refine (lives04 _ hT hg).mono ?_
    rintro e w4 ⟨rfl, hb4⟩
    go_wp2_with fail
    go_ret
    exact ⟨by simp, hb4⟩
end Go.Proofs.YtaaajmonabhdgaaDoor
