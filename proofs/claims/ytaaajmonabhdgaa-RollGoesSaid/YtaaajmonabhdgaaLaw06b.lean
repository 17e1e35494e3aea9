/- The walk of the statement RollParts of layer 6; conditions: none beyond its hypotheses. -/
import Derived.Test.YtaaajmonabhdgaaLaw06
namespace Go.Proofs.Ytaaajmonabhdgaa
open Go.RowKit Go.Proofs.U
set_option linter.unusedVariables false

theorem lo_rsum (l : List UInt8) : lo (rsum l) = md (ra l) := by unfold lo rsum md; omega
theorem hi_rsum (l : List UInt8) : hi (rsum l) = md (rb l) := by unfold hi rsum md; omega
theorem push_rsum (l : List UInt8) (c : UInt8) : pushS (rsum l) c = rsum (l ++ [c]) := by
  unfold pushS; rw [lo_rsum, hi_rsum]; unfold join rsum; rw [ra_snoc, rb_snoc]; unfold md; omega
theorem pop_rsum (l : List UInt8) (c : UInt8) (n : Int) (hn : n = ((l.length + 1 : Nat) : Int)) : popS (rsum (c :: l)) n c = rsum l := by
  subst hn
  unfold popS; rw [lo_rsum, hi_rsum]; unfold join rsum; rw [ra_cons]; simp only [rb]
  generalize ((l.length + 1 : Nat) : Int) * (c.toNat : Int) = P
  unfold md; omega
theorem join_rsum (l m : List UInt8) (n : Int) (hn : n = (m.length : Int)) : joinS (rsum l) (rsum m) n = rsum (l ++ m) := by
  subst hn
  unfold joinS; rw [lo_rsum, lo_rsum, hi_rsum, hi_rsum]; unfold join rsum; rw [ra_append, rb_append]
  have h := md_mul' (m.length : Int) (ra l)
  generalize (m.length : Int) * md (ra l) = P at h ⊢
  generalize (m.length : Int) * ra l = Q at h ⊢
  unfold md at h ⊢; omega

set_option maxHeartbeats 1000000 in
theorem rollParts_any (A : Option Addr) (n c : Nat) (bs : List UInt8) (A' : Option Addr) (m d : Nat) (bs' : List UInt8) (w : World) (hb : BS w w.heap.size A n bs) (hb' : BS w w.heap.size A' m bs') (hn : n ≤ maxLen) (hm : m ≤ maxLen) :
    Calls Try.prog 3 #[.slice A n c, .slice A' m d] w (Yes w) := by
  have hn' := hn
  have hm' := hm
  unfold maxLen at hn' hm'
  by_cases hl : n ≤ 1000 ∧ m ≤ 1000
  · obtain ⟨hl1, hl2⟩ := hl
    have g1 : decide ((1000 : Int) < (n : Int)) = false := by simp; omega
    have g2 : decide ((1000 : Int) < (m : Int)) = false := by simp; omega
    have HJ := Lib.hid (join_rsum bs bs' (m : Int) (by rw [hb'.1]))
    go_enter Try.func3, Try.ntmps3
    go_wp2_with (first
      | (at_builtin; refine wpList_app rbt rfl (.tmp 20) (.tmp 21) rfl w.heap.size _ _ _ [] rfl (Own.made w _ _ (Nat.le_refl _)) _ _ _ _ bs rfl (hb.alloc (Nat.le_refl _) _) (by omega) (by simp) ?_; intro A1 c1 w1 hown1 hg1 _; have hb1 : Below w.heap.size w w1 := below_of_grown ((Below.refl _ _).alloc (Nat.le_refl _) _) (by simp) (Own.made w _ _ (Nat.le_refl _)) (Nat.le_refl _) hg1; simp only [Nat.zero_add, List.nil_append] at hown1)
      | (at_builtin; refine wpList_app rbt rfl (.tmp 22) (.tmp 23) rfl w.heap.size _ _ _ bs rfl hown1 _ _ _ _ bs' rfl (hb'.below hb1) (by omega) hb1.size ?_; intro A2 c2 w2 hown2 hg2 _; have hb2 : Below w.heap.size w w2 := below_of_grown hb1 hb1.size hown1 (Nat.le_refl _) hg2))
    refine (rsum_any _ _ _ bs _ _ (hb.below hb2) hb2.size hn).mono ?_
    rintro e w3 ⟨rfl, hb3⟩
    have f3 := hb2.trans (hb3.mono hb2.size)
    go_wp2_with fail
    refine (rsum_any _ _ _ bs' _ _ (hb'.below f3) f3.size hm).mono ?_
    rintro e w4 ⟨rfl, hb4⟩
    have f4 := f3.trans (hb4.mono f3.size)
    go_wp2_with fail
    refine (join_any _ (rsum_bd bs).1 (rsum_bd bs).2 _ (rsum_bd bs').1 (rsum_bd bs').2 _ _).mono ?_
    rw [HJ.out]
    rintro e w5 ⟨rfl, hb5⟩
    have f5 := f4.trans (hb5.mono f4.size)
    have f25 := (hb3.trans (hb4.mono hb3.size)).trans (hb5.mono (hb3.trans (hb4.mono hb3.size)).size)
    go_wp2_with fail
    refine (rrsum_any _ _ _ (bs ++ bs') _ _ (hown2.below f25).bs (by omega)).mono ?_
    rintro e w' ⟨rfl, rfl⟩
    go_wp2_with fail
    refine (rsum_any _ _ _ bs _ _ (hb.below f5) f5.size hn).mono ?_
    rintro e w6 ⟨rfl, hb6⟩
    have f6 := f5.trans (hb6.mono f5.size)
    go_wp2_with fail
    go_loopw [6, 39] (fun s i wr => ∃ k : Nat, k ≤ m ∧ i = .int .i64 k ∧ s = .int .u32 (rsum (bs ++ bs'.take k)) ∧ Below w.heap.size w wr) (fun _ i _ => m - (intOf i).toNat)
    case atStart => exact ⟨0, Nat.zero_le _, rfl, by simp, f6⟩
    case round =>
      obtain ⟨k, hk, rfl, rfl, hbw⟩ := hrel
      obtain ⟨wo, rfl⟩ : ∃ wo : World, wo = wr := ⟨_, rfl⟩
      by_cases hlt : k < m
      · obtain ⟨b, off, x, rfl, hbB, hx, hc⟩ := (hb'.below hbw).at_ hlt
        have Hx := Lib.hid hx
        clear hx
        go_wp2_with fail
        refine (push_any _ (rsum_bd _).1 (rsum_bd _).2 x _).mono ?_
        rw [push_rsum, List.append_assoc, ← take_snoc Hx.out]
        rintro e w7 ⟨rfl, hb7⟩
        go_wp2_with fail
        go_roundw
        case rel => exact ⟨k + 1, by omega, by go_num, rfl, hbw.trans (hb7.mono hbw.size)⟩
        case measure => simp [intOf]; omega
      · have hkm : k = m := by omega
        subst hkm
        rw [List.take_of_length_le (by have := hb'.1; omega)]
        go_wp2_with fail
        go_loopw [6, 49] (fun s i wr => ∃ k : Nat, k ≤ n ∧ i = .int .i64 k ∧ s = .int .u32 (rsum (bs.drop k ++ bs')) ∧ Below w.heap.size w wr) (fun _ i _ => n - (intOf i).toNat)
        case atStart => exact ⟨0, Nat.zero_le _, rfl, by simp, hbw⟩
        case round =>
          obtain ⟨j, hj, rfl, rfl, hbx⟩ := hrel
          obtain ⟨wp, rfl⟩ : ∃ wp : World, wp = wr := ⟨_, rfl⟩
          by_cases hlt' : j < n
          · obtain ⟨b, off, x, rfl, hbB, hx, hc⟩ := (hb.below hbx).at_ hlt'
            have hd : bs.drop j = x :: bs.drop (j + 1) := by
              obtain ⟨hj2, rfl⟩ := List.getElem?_eq_some_iff.1 hx
              exact List.drop_eq_getElem_cons hj2
            have hp := pop_rsum (bs.drop (j + 1) ++ bs') x ((n : Int) + k - j) (by simp [hb.1, hb'.1]; omega)
            rw [← List.cons_append, ← hd] at hp
            have HP := Lib.hid hp
            clear hx hd hp
            go_wp2_with fail
            refine (pop_any _ (rsum_bd _).1 (rsum_bd _).2 ((n : Int) + k - j) x _).mono ?_
            rw [HP.out]
            rintro e w7 ⟨rfl, hb7⟩
            go_wp2_with fail
            go_roundw
            case rel => exact ⟨j + 1, by omega, by go_num, rfl, hbx.trans (hb7.mono hbx.size)⟩
            case measure => simp [intOf]; omega
          · rw [List.drop_of_length_le (by have := hb.1; omega), List.nil_append]
            go_wp2_with fail
            refine (rrsum_any _ _ _ bs' _ _ (hb'.below hbx) (by omega)).mono ?_
            rintro e w' ⟨rfl, rfl⟩
            go_wp2_with fail
            refine (lives06 _).mono ?_
            rintro e w8 ⟨rfl, hb8⟩
            go_wp2_with fail
            go_ret
            exact ⟨by simp, hbx.trans (hb8.mono hbx.size)⟩
  · have hg : (decide ((1000 : Int) < (n : Int)) = true) ∨ (decide ((1000 : Int) < (n : Int)) = false ∧ decide ((1000 : Int) < (m : Int)) = true) := by
      simp only [decide_eq_true_eq, decide_eq_false_iff_not]; omega
    rcases hg with g1 | ⟨g1, g2⟩
    all_goals
      go_enter Try.func3, Try.ntmps3
      go_wp2_with fail
      refine (lives06 _).mono ?_
      rintro e w4 ⟨rfl, hb4⟩
      go_wp2_with fail
      go_ret
      exact ⟨by simp, hb4⟩
end Go.Proofs.Ytaaajmonabhdgaa
