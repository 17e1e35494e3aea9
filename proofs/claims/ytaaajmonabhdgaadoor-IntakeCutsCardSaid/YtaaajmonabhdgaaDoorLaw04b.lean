/- The walks of the statement CheckOpens of layer 4; conditions: none beyond their hypotheses. -/
import Derived.Test.YtaaajmonabhdgaaDoorLaw04
import Derived.Test.YtaaajmonabhdgaaDoorOpn
namespace Go.Proofs.YtaaajmonabhdgaaDoor
open Go.RowKit Go.Proofs.U
set_option linter.unusedVariables false

theorem Nib.lt {w : World} (h : Nib w) : 0 < w.heap.size := World.block_lt_of_cell? w _ (h 0 (by decide))
theorem Nib.stay {w w' : World} (h : Nib w) (hb : Below w.heap.size w w') : Nib w' := h.below hb h.lt

set_option maxHeartbeats 400000 in
theorem checkOpens_any (A : Option Addr) (n c : Nat) (bs : List UInt8) (w : World) (hb : BS w w.heap.size A n bs) (hn : n ≤ maxLen) (hc : n ≤ c) (hT : Nib w) :
    Calls Tryd.prog 4 #[.slice A n c] w (Yes w) := by
  have hm := hn
  unfold maxLen at hm
  by_cases hl : n ≤ 1000
  · have hos := opn_sealed bs
    have hlen : (sealed bs).length = n + 4 := by unfold sealed tail; simp [hb.1]
    go_enter Tryd.func4, Tryd.ntmps4
    go_wp2_with fail
    refine (open_any _ _ _ bs _ hb (by omega) hc hT).mono ?_
    rintro e w1 ⟨A1, c1, rfl, hown1, hb1⟩
    go_wp2_with fail
    refine (ropen_any _ _ _ bs _ ((hb.below hb1).more hb1.size) (by omega) hc).mono ?_
    rintro e w2 ⟨A2, c2, rfl, hbs2, hb2⟩
    have hb12 := hb1.trans (hb2.mono hb1.size)
    go_wp2_with fail
    refine (seal_any _ _ _ bs _ ((hb.below hb12).more hb12.size) (by omega) (hT.stay hb12)).mono ?_
    rintro e w3 ⟨A3, c3, rfl, hown3, hb3⟩
    have hb13 := hb12.trans (hb3.mono hb12.size)
    go_wp2_with fail
    refine (open_any _ _ _ (sealed bs) _ hown3.bs (by omega) hown3.le (hT.stay hb13)).mono ?_
    rw [opn_sealed]
    rintro e w4 ⟨A4, c4, rfl, hown4, hb4⟩
    have hb14 := hb13.trans (hb4.mono hb13.size)
    go_wp2_with fail
    have h24 := hb3.trans (hb4.mono hb3.size)
    refine (same_any _ _ _ (opn bs).1 _ _ _ (opn bs).1 _ _ _ ((hown1.below hb2).below h24).bs (hbs2.below h24)).mono ?_
    rintro e w' ⟨rfl, rfl⟩
    go_wp2_with fail
    refine (same_any _ _ _ bs _ _ _ bs _ _ _ hown4.bs (hb.below hb14)).mono ?_
    rintro e w' ⟨rfl, rfl⟩
    go_wp2_with fail
    refine (lives04 _ (hT.stay hb14) (hT.stay hb14).lt).mono ?_
    rintro e w5 ⟨rfl, hb5⟩
    go_wp2_with fail
    go_ret
    exact ⟨by simp, hb14.trans (hb5.mono hb14.size)⟩
  · go_enter Tryd.func4, Tryd.ntmps4
    go_wp2_with fail
    refine (lives04 _ hT hT.lt).mono ?_
    rintro e w4 ⟨rfl, hb4⟩
    go_wp2_with fail
    go_ret
    exact ⟨by simp, hb4⟩
end Go.Proofs.YtaaajmonabhdgaaDoor
