/- The walks of the statements of layer 13: lives, FrameTakes, FrameWraps; conditions: none beyond their hypotheses. -/
import Derived.Test.YtaaajmonabhdgaaDoorFrp
namespace Go.Proofs.YtaaajmonabhdgaaDoor
open Go.RowKit Go.Proofs.U
set_option linter.unusedVariables false

set_option maxHeartbeats 1000000 in
theorem lives13 (w : World) (hT : Nib w) : Calls Tryd.prog 24 #[] w (Yes w) := by
  have ht := ftake_wrap [] [] (by simp)
  rw [List.append_nil] at ht
  have hF := fwrap_len [] (by simp)
  have hc : (fwrap []).2 = 0 := by rw [fwrap_ok [] (by simp)]
  have Hc := Lib.hid hc
  have Ht := Lib.hid ht
  have HF := Lib.hid hF
  clear ht hF hc
  go_enter Tryd.func24, Tryd.ntmps24
  go_wp2_with fail
  refine (wrap_any none 0 0 [] w (BS.nil _ _ _) (by omega) hT).mono ?_
  rintro e w1 ⟨A1, c1, rfl, hown1, hb1⟩
  have hle := hown1.le
  have hbs := hown1.bs
  rw [HF.out] at hle hbs
  rw [HF.out, Hc.out]
  go_wp2_with fail
  refine (take_any A1 10 c1 (fwrap []).1 _ hbs (by omega) hle (hT.stay hb1)).mono ?_
  rw [Ht.out]
  rintro e w2 ⟨A2, c2, rfl, hown2, hb2⟩
  go_wp2_with fail
  refine (size_any 3 (by omega) (by omega) _).mono ?_
  rw [show (10 : Int) + max 3 0 = 13 from rfl]
  rintro e w' ⟨rfl, rfl⟩
  go_wp2_with fail
  go_ret
  exact ⟨by simp, hb1.trans (hb2.mono hb1.size)⟩

set_option maxHeartbeats 1000000 in
theorem frameTakes_any (A : Option Addr) (n c : Nat) (bs : List UInt8) (w : World) (hb : BS w w.heap.size A n bs) (hn : n ≤ maxLen) (hc : n ≤ c) (hT : Nib w) :
    Calls Tryd.prog 9 #[.slice A n c] w (Yes w) := by
  unfold maxLen at hn
  by_cases hl : n ≤ 3000
  · go_enter Tryd.func9, Tryd.ntmps9
    go_wp2_with fail
    refine (take_any A n c bs _ hb (by omega) hc hT).mono ?_
    rintro e w1 ⟨A1, c1, rfl, hown1, hb1⟩
    go_wp2_with fail
    refine (rtake_any A n c bs _ ((hb.below hb1).more hb1.size) (by omega) hc).mono ?_
    rintro e w2 ⟨A2, c2, rfl, hbs2, hb2⟩
    have g2 := hb1.trans (hb2.mono hb1.size)
    go_wp2_with fail
    refine (need_any A n c bs _ ((hb.below g2).more g2.size) (by omega) hc (hT.stay g2)).mono ?_
    rintro e w3 ⟨rfl, hb3⟩
    have g3 := g2.trans (hb3.mono g2.size)
    go_wp2_with fail
    refine (rneed_any A n c bs _ ((hb.below g3).more g3.size) (by omega) hc).mono ?_
    rintro e w4 ⟨rfl, hb4⟩
    have g4 := g3.trans (hb4.mono g3.size)
    have g24 := hb3.trans (hb4.mono hb3.size)
    go_wp2_with fail
    refine (same_any _ _ _ (ftake bs).1 _ _ _ (ftake bs).1 _ _ _ ((hown1.below hb2).below g24).bs (hbs2.below g24)).mono ?_
    rintro e w' ⟨rfl, rfl⟩
    go_wp2_with fail
    refine (lives13 _ (hT.stay g4)).mono ?_
    rintro e w5 ⟨rfl, hb5⟩
    go_wp2_with fail
    go_ret
    exact ⟨by simp, g4.trans (hb5.mono g4.size)⟩
  · go_enter Tryd.func9, Tryd.ntmps9
    go_wp2_with fail
    refine (lives13 _ hT).mono ?_
    rintro e w5 ⟨rfl, hb5⟩
    go_wp2_with fail
    go_ret
    exact ⟨by simp, hb5⟩

set_option maxHeartbeats 1000000 in
theorem frameWraps_any (A : Option Addr) (n c : Nat) (bs : List UInt8) (A' : Option Addr) (m d : Nat) (bs' : List UInt8) (x : Int) (w : World) (hb : BS w w.heap.size A n bs) (hb' : BS w w.heap.size A' m bs') (hn : n ≤ maxLen) (hm : m ≤ maxLen)
    (hx : -9223372036854775808 ≤ x ∧ x ≤ 9223372036854775807) (hT : Nib w) :
    Calls Tryd.prog 7 #[.slice A n c, .slice A' m d, .int .i64 x] w (Yes w) := by
  unfold maxLen at hn hm
  have hl := hb.1
  by_cases hin : n ≤ 3000 ∧ m ≤ 300 ∧ x ≤ 1099511627776
  · obtain ⟨h1, h2, h3⟩ := hin
    have g1 : decide ((3000 : Int) < (n : Int)) = false := by simp; omega
    have g2 : decide ((300 : Int) < (m : Int)) = false := by simp; omega
    have g3 : decide ((1099511627776 : Int) < x) = false := by simp; omega
    by_cases hbig : n ≤ 1400
    · have hF := fwrap_len bs (by omega)
      have hcode : (fwrap bs).2 = 0 := by rw [fwrap_ok bs (by omega)]
      have ht := ftake_wrap bs bs' (by omega)
      rw [hl] at hF ht
      have Ht := Lib.hid ht
      have HF := Lib.hid hF
      have Hc := Lib.hid hcode
      have Hl := Lib.hid hl
      clear ht hF hcode hl
      by_cases hneg : x < 0
      all_goals
        first | (have hmx : max x 0 = 0 := by omega) | (have hmx : max x 0 = x := by omega)
        have Hmx := Lib.hid hmx
        clear hmx
        go_enter Tryd.func7, Tryd.ntmps7
        go_wp2_with fail
        refine (wrap_any _ _ _ bs _ hb (by omega) hT).mono ?_
        rintro e w1 ⟨A1, c1, rfl, hown1, hb1⟩
        rw [HF.out] at hown1
        rw [HF.out, Hc.out]
        go_wp2_with fail
        refine (rwrap_any _ _ _ bs _ ((hb.below hb1).more hb1.size) (by omega)).mono ?_
        rintro e w2 ⟨A2, c2, rfl, hown2, hb2⟩
        rw [HF.out] at hown2
        rw [HF.out, Hc.out]
        have f2 := hb1.trans (hb2.mono hb1.size)
        go_wp2_with fail
        refine (same_any _ _ _ (fwrap bs).1 _ _ _ (fwrap bs).1 _ _ _ (hown1.below hb2).bs hown2.bs).mono ?_
        rintro e w' ⟨rfl, rfl⟩
        go_wp2_with fail
        refine (size_any x hx.1 h3 _).mono ?_
        rw [Hmx.out]
        rintro e w' ⟨rfl, rfl⟩
        go_wp2_with (first
          | (at_builtin; refine wpList_app bt rfl (.tmp 58) (.tmp 59) rfl w2.heap.size _ _ _ [] rfl (Own.made w2 _ _ (Nat.le_refl _)) _ _ _ _ (fwrap bs).1 rfl (((hown1.below hb2).bs).alloc (Nat.le_refl _) _) (by omega) (by simp) ?_; intro A3 c3 w3 hown3 hg3 _; have hb3 : Below w2.heap.size w2 w3 := below_of_grown ((Below.refl _ _).alloc (Nat.le_refl _) _) (by simp) (Own.made w2 _ _ (Nat.le_refl _)) (Nat.le_refl _) hg3; simp only [Nat.zero_add, List.nil_append] at hown3)
          | (at_builtin; refine wpList_app bt rfl (.tmp 60) (.tmp 61) rfl w2.heap.size _ _ _ (fwrap bs).1 rfl hown3 _ _ _ _ bs' rfl ((hb'.below f2).below (hb3.mono f2.size)) (by omega) hb3.size ?_; intro A4 c4 w4 hown4 hg4 _; have hb4 : Below w2.heap.size w2 w4 := below_of_grown hb3 hb3.size hown3 (Nat.le_refl _) hg4))
        have f4 := f2.trans (hb4.mono f2.size)
        refine (take_any _ _ _ ((fwrap bs).1 ++ bs') _ hown4.bs (by omega) hown4.le (hT.stay f4)).mono ?_
        rw [Ht.out]
        rintro e w5 ⟨A5, c5, rfl, hown5, hb5⟩
        have f5 := f4.trans (hb5.mono f4.size)
        rw [Hl.out] at hown5
        rw [Hl.out]
        go_wp2_with fail
        refine (same_any _ _ _ bs _ _ _ bs _ _ _ hown5.bs (hb.below f5)).mono ?_
        rintro e w' ⟨rfl, rfl⟩
        go_wp2_with fail
        refine (size_nat n (by omega) _).mono ?_
        rw [show (10 : Int) + (n : Int) = (n : Int) + 10 by omega]
        rintro e w' ⟨rfl, rfl⟩
        go_wp2_with fail
        refine (lives13 _ (hT.stay f5)).mono ?_
        rintro e w6 ⟨rfl, hb6⟩
        go_wp2_with fail
        go_ret
        exact ⟨by simp, f5.trans (hb6.mono f5.size)⟩
    · have hno := fwrap_no bs (by omega)
      have Hno := Lib.hid hno
      clear hno hl
      by_cases hneg : x < 0
      all_goals
        first | (have hmx : max x 0 = 0 := by omega) | (have hmx : max x 0 = x := by omega)
        have Hmx := Lib.hid hmx
        clear hmx
        go_enter Tryd.func7, Tryd.ntmps7
        go_wp2_with fail
        refine (wrap_any _ _ _ bs _ hb (by omega) hT).mono ?_
        rw [Hno.out]
        rintro e w1 ⟨A1, c1, rfl, hown1, hb1⟩
        go_wp2_with fail
        refine (rwrap_any _ _ _ bs _ ((hb.below hb1).more hb1.size) (by omega)).mono ?_
        rw [Hno.out]
        rintro e w2 ⟨A2, c2, rfl, hown2, hb2⟩
        have f2 := hb1.trans (hb2.mono hb1.size)
        go_wp2_with fail
        refine (same_any _ _ _ [] _ _ _ [] _ _ _ (hown1.below hb2).bs hown2.bs).mono ?_
        rintro e w' ⟨rfl, rfl⟩
        go_wp2_with fail
        refine (size_any x hx.1 h3 _).mono ?_
        rw [Hmx.out]
        rintro e w' ⟨rfl, rfl⟩
        go_wp2_with fail
        refine (lives13 _ (hT.stay f2)).mono ?_
        rintro e w6 ⟨rfl, hb6⟩
        go_wp2_with fail
        go_ret
        exact ⟨by simp, f2.trans (hb6.mono f2.size)⟩
  · have hg : decide ((3000 : Int) < (n : Int)) = true ∨ (decide ((3000 : Int) < (n : Int)) = false ∧ decide ((300 : Int) < (m : Int)) = true) ∨ ((decide ((3000 : Int) < (n : Int)) = false ∧ decide ((300 : Int) < (m : Int)) = false) ∧ decide ((1099511627776 : Int) < x) = true) := by
      simp only [decide_eq_true_eq, decide_eq_false_iff_not]; omega
    rcases hg with g1 | ⟨g1, g2⟩ | ⟨⟨g1, g2⟩, g3⟩
    all_goals
      go_enter Tryd.func7, Tryd.ntmps7
      go_wp2_with fail
      refine (lives13 _ hT).mono ?_
      rintro e w5 ⟨rfl, hb5⟩
      go_wp2_with fail
      go_ret
      exact ⟨by simp, hb5⟩
end Go.Proofs.YtaaajmonabhdgaaDoor
