/- The walk of the statement CheckBursts of layer 4; conditions: none beyond its hypotheses. -/
import Derived.Test.YtaaajmonabhdgaaDoorLaw04b
import Derived.Test.YtaaajmonabhdgaaDoorFlip
namespace Go.Proofs.YtaaajmonabhdgaaDoor
open Go.RowKit Go.Proofs.U
set_option linter.unusedVariables false

theorem lsb0_bsr (m : BitVec 32) (i : Nat) : lsb0 (bsr m i) = m.getLsbD i := by
  unfold lsb0 bsr; rw [BitVec.getLsbD_ushiftRight]; simp

set_option maxHeartbeats 400000 in
theorem checkBursts_any (A : Option Addr) (n c : Nat) (bs : List UInt8) (x : Nat) (mask : BitVec 32) (w : World) (hb : BS w w.heap.size A n bs) (hn : n ≤ maxLen) (hx : x < 65536) (hT : Nib w) :
    Calls Tryd.prog 5 #[.slice A n c, .int .u16 (x : Int), .int .u32 (mask.toNat : Int)] w (Yes w) := by
  unfold maxLen at hn
  by_cases hl : n ≤ 600 ∧ mask ≠ 0#32
  · obtain ⟨hl1, hl2⟩ := hl
    have g1 : decide ((600 : Int) < (n : Int)) = false := by simp; omega
    have g2 : ((mask.toNat : Int) == 0) = false := by
      have := u32_beq mask 0#32
      rw [decide_eq_false hl2] at this; exact this
    obtain ⟨first, hfirst⟩ : ∃ first : Nat, first = x % (8 * (n + 4) - 31) := ⟨_, rfl⟩
    have hF : ((x : Int) % (8 * ((n : Int) + 4) - 31)) = (first : Int) := by
      rw [hfirst, show (8 * ((n : Int) + 4) - 31) = ((8 * (n + 4) - 31 : Nat) : Int) by omega]; rfl
    have HF := Lib.hid hF
    clear hF
    have hfb : first + 32 ≤ 8 * (n + 4) := by have := Nat.mod_lt x (show 8 * (n + 4) - 31 > 0 by omega); omega
    have hopn := opn_burst bs first mask (by rw [hb.1]; exact hfb) hl2
    have hslen : (sealed bs).length = n + 4 := by rw [sealed_len, hb.1]
    have Hopn := Lib.hid hopn
    have Hlen := Lib.hid hslen
    clear hfirst hopn hslen
    go_enter Tryd.func5, Tryd.ntmps5
    go_wp2_with (go_at_call 20; refine (rseal_any _ _ _ bs _ hb (by omega)).mono ?_; rintro e w1 ⟨A1, c1, rfl, hown1, hb1⟩)
    obtain ⟨g, rfl, hgb, hgl⟩ := hown1.form (by omega)
    rw [HF.out]
    clear HF
    go_loopw [9] (fun i wr => ∃ k : Nat, k ≤ 32 ∧ i = .int .i64 k ∧ Own wr w.heap.size 5 (some ⟨g, 0, none⟩) (n + 4) c1 (fl (sealed bs) first mask k) ∧ Below w.heap.size w wr) (fun i _ => 32 - (intOf i).toNat)
    case atStart => exact ⟨0, Nat.zero_le _, rfl, hown1, hb1⟩
    case round =>
      obtain ⟨k, hk, rfl, hown, hbw⟩ := hrel
      by_cases hlt : k < 32
      · obtain ⟨wo, rfl⟩ : ∃ wo : World, wo = wr := ⟨_, rfl⟩
        have hmb := lsb0_bsr mask k
        have hlen := fl_len (sealed bs) first mask k
        rw [Hlen.out] at hlen
        obtain ⟨y, hy⟩ : ∃ y, (fl (sealed bs) first mask k)[(first + k) / 8]? = some y := ⟨_, List.getElem?_eq_getElem (by omega)⟩
        have hcell := hown.cellAt _ y hy
        have hfree := hown.free ((first + k) / 8)
        have hx8 := x8_walk y ((first + k) % 8) (by omega)
        have Hy := Lib.hid hy
        have Hl2 := Lib.hid hlen
        have Hmb := Lib.hid hmb
        clear hy hlen hmb
        cases hbit : lsb0 (bsr mask k)
        · go_wp2_with fail
          go_roundw
          case rel => exact ⟨k + 1, by omega, by go_num, by rw [fl_no _ _ _ _ (Hmb.out.symm.trans hbit)]; exact hown, hbw⟩
          case measure => simp [intOf]; omega
        · go_wp2_with fail
          go_region
          go_wp2_with fail
          go_roundw
          case rel => exact ⟨k + 1, by omega, by go_num, by rw [fl_yes _ _ _ _ y (Hmb.out.symm.trans hbit) Hy.out]; exact (hown.set _ _).drew, (hbw.setCell hgb _).drew⟩
          case measure => simp [intOf]; omega
      · have e9 : k = 32 := by omega
        subst e9
        have hlen := fl_len (sealed bs) first mask 32
        rw [Hlen.out] at hlen
        go_wp2_with fail
        refine (open_any _ _ _ (fl (sealed bs) first mask 32) _ hown.bs (by omega) hown.le (hT.stay hbw)).mono ?_
        rw [Hopn.out]
        rintro e w4 ⟨A4, c4, rfl, hown4, hb4⟩
        have hb5 := hbw.trans (hb4.mono hbw.size)
        go_wp2_with fail
        refine (lives04 _ (hT.stay hb5) (hT.stay hb5).lt).mono ?_
        rintro e w5 ⟨rfl, hb6⟩
        go_wp2_with fail
        go_ret
        exact ⟨by simp, hb5.trans (hb6.mono hb5.size)⟩
  · have hg : (decide ((600 : Int) < (n : Int)) = true) ∨ (decide ((600 : Int) < (n : Int)) = false ∧ mask = 0#32) := by
      simp only [decide_eq_true_eq, decide_eq_false_iff_not]
      by_cases h : n ≤ 600
      · refine .inr ⟨by omega, ?_⟩
        by_cases h2 : mask = 0#32
        · exact h2
        · exact absurd ⟨h, h2⟩ hl
      · exact .inl (by omega)
    rcases hg with g1 | ⟨g1, rfl⟩
    all_goals
      go_enter Tryd.func5, Tryd.ntmps5
      go_wp2_with fail
      refine (lives04 _ hT hT.lt).mono ?_
      rintro e w4 ⟨rfl, hb4⟩
      go_wp2_with fail
      go_ret
      exact ⟨by simp, hb4⟩
end Go.Proofs.YtaaajmonabhdgaaDoor
