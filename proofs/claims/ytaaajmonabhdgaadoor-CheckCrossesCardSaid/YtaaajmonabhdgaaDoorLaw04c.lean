/- The walk of the statement CheckCrosses of layer 4; conditions: none beyond its hypotheses. -/
import Derived.Test.YtaaajmonabhdgaaDoorLaw04b
import Derived.Test.YtaaajmonabhdgaaDoorCrs
namespace Go.Proofs.YtaaajmonabhdgaaDoor
open Go.RowKit Go.Proofs.U
set_option linter.unusedVariables false

set_option maxHeartbeats 400000 in
theorem checkCrosses_any (A : Option Addr) (n c : Nat) (bs : List UInt8) (A' : Option Addr) (m d : Nat) (bs' : List UInt8) (x : Int) (w : World) (hb : BS w w.heap.size A n bs) (hb' : BS w w.heap.size A' m bs') (hn : n ≤ maxLen) (hm : m ≤ maxLen)
    (hx : -9223372036854775808 ≤ x ∧ x ≤ 9223372036854775807) (hT : Nib w) :
    Calls Tryd.prog 6 #[.slice A n c, .slice A' m d, .int .i64 x] w (Yes w) := by
  unfold maxLen at hn hm
  by_cases hl : n ≤ 1000 ∧ m ≤ 1000
  · obtain ⟨hl1, hl2⟩ := hl
    have g1 : decide ((1000 : Int) < (n : Int)) = false := by simp; omega
    have g2 : decide ((1000 : Int) < (m : Int)) = false := by simp; omega
    have hM : bx (Crc.bits (8 * m) (Crc.more 0#32 bs)) (Crc.more 0#32 bs') = Crc.more 0#32 (bs ++ bs') := by
      rw [Crc.more_append, hb'.1]; rfl
    have HM := Lib.hid hM
    clear hM
    have hcase : (decide (0 ≤ x) = true ∧ decide (x ≤ 1048576) = true) ∨ (decide (0 ≤ x) = false ∧ (x < 0 ∨ 1048576 < x)) ∨ ((decide (0 ≤ x) = true ∧ decide (x ≤ 1048576) = false) ∧ (x < 0 ∨ 1048576 < x)) := by
      simp only [decide_eq_true_eq, decide_eq_false_iff_not]; omega
    rcases hcase with ⟨q1, q2⟩ | ⟨q1, q3⟩ | ⟨⟨q1, q2⟩, q3⟩
    all_goals
      go_enter Tryd.func6, Tryd.ntmps6
      go_wp2_with (first
        | (at_builtin; refine wpList_app bt rfl (.tmp 17) (.tmp 18) rfl w.heap.size _ _ _ [] rfl (Own.made w _ _ (Nat.le_refl _)) _ _ _ _ bs rfl (hb.alloc (Nat.le_refl _) _) (by omega) (by simp) ?_; intro A1 c1 w1 hown1 hg1 _; have hb1 : Below w.heap.size w w1 := below_of_grown ((Below.refl _ _).alloc (Nat.le_refl _) _) (by simp) (Own.made w _ _ (Nat.le_refl _)) (Nat.le_refl _) hg1; simp only [Nat.zero_add, List.nil_append] at hown1)
        | (at_builtin; refine wpList_app bt rfl (.tmp 19) (.tmp 20) rfl w.heap.size _ _ _ bs rfl hown1 _ _ _ _ bs' rfl (hb'.below hb1) (by omega) hb1.size ?_; intro A2 c2 w2 hown2 hg2 _; have hb2 : Below w.heap.size w w2 := below_of_grown hb1 hb1.size hown1 (Nat.le_refl _) hg2))
      refine (sum_any _ _ _ bs _ _ (hb.below hb2) (by unfold maxLen; omega) (hT.stay hb2)).mono ?_
      rintro e w' ⟨rfl, rfl⟩
      go_wp2_with fail
      refine (sum_any _ _ _ bs' _ _ (hb'.below hb2) (by unfold maxLen; omega) (hT.stay hb2)).mono ?_
      rintro e w' ⟨rfl, rfl⟩
      go_wp2_with fail
      refine (cross_any _ _ m (by omega) w2).mono ?_
      rw [HM.out]
      rintro e w' ⟨rfl, rfl⟩
      go_wp2_with fail
      refine (rsum_any _ _ _ (bs ++ bs') _ _ hown2.bs (by unfold maxLen; omega)).mono ?_
      rintro e w' ⟨rfl, rfl⟩
      go_wp2_with fail
      first
        | ((with_reducible refine (lives04 _ (hT.stay hb2) (hT.stay hb2).lt).mono ?_)
           rintro e w5 ⟨rfl, hb5⟩
           go_wp2_with fail
           go_ret
           exact ⟨by simp, hb2.trans (hb5.mono hb2.size)⟩)
        | (refine (cross_out 5#32 7#32 x q3 w2).mono ?_
           rintro e w' ⟨rfl, rfl⟩
           go_wp2_with fail
           refine (lives04 _ (hT.stay hb2) (hT.stay hb2).lt).mono ?_
           rintro e w5 ⟨rfl, hb5⟩
           go_wp2_with fail
           go_ret
           exact ⟨by simp, hb2.trans (hb5.mono hb2.size)⟩)
  · have hg : (decide ((1000 : Int) < (n : Int)) = true) ∨ (decide ((1000 : Int) < (n : Int)) = false ∧ decide ((1000 : Int) < (m : Int)) = true) := by
      simp only [decide_eq_true_eq, decide_eq_false_iff_not]; omega
    rcases hg with g1 | ⟨g1, g2⟩
    all_goals
      go_enter Tryd.func6, Tryd.ntmps6
      go_wp2_with fail
      refine (lives04 _ hT hT.lt).mono ?_
      rintro e w4 ⟨rfl, hb4⟩
      go_wp2_with fail
      go_ret
      exact ⟨by simp, hb4⟩
end Go.Proofs.YtaaajmonabhdgaaDoor
