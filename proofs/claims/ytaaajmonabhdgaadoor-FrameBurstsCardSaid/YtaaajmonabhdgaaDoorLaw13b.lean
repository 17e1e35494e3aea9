/- The walk of the statement FrameBursts of layer 13; conditions: none beyond its hypotheses. -/
import Derived.Test.YtaaajmonabhdgaaDoorLaw13
import Derived.Test.YtaaajmonabhdgaaDoorLaw04d
namespace Go.Proofs.YtaaajmonabhdgaaDoor
open Go.RowKit Go.Proofs.U
set_option linter.unusedVariables false

set_option maxHeartbeats 1000000 in
theorem frameBursts_any (A : Option Addr) (n c : Nat) (bs : List UInt8) (A' : Option Addr) (m d : Nat) (bs' : List UInt8) (x : Nat) (mask : BitVec 32) (w : World) (hb : BS w w.heap.size A n bs) (hb' : BS w w.heap.size A' m bs') (hn : n ≤ maxLen) (hm : m ≤ maxLen) (hx : x < 65536) (hT : Nib w) :
    Calls Tryd.prog 8 #[.slice A n c, .slice A' m d, .int .u16 (x : Int), .int .u32 (mask.toNat : Int)] w (Yes w) := by
  unfold maxLen at hn hm
  by_cases hl : n ≤ 500 ∧ m ≤ 300 ∧ mask ≠ 0#32
  · obtain ⟨hl1, hl2, hl3⟩ := hl
    have g1 : decide ((500 : Int) < (n : Int)) = false := by simp; omega
    have g3 : decide ((300 : Int) < (m : Int)) = false := by simp; omega
    have g2 : ((mask.toNat : Int) == 0) = false := by
      have := u32_beq mask 0#32
      rw [decide_eq_false hl3] at this; exact this
    obtain ⟨first, hfirst⟩ : ∃ first : Nat, first = x % (8 * (n + 10) - 31) := ⟨_, rfl⟩
    have hF : ((x : Int) % (8 * ((n : Int) + 10) - 31)) = (first : Int) := by
      rw [hfirst, show (8 * ((n : Int) + 10) - 31) = ((8 * (n + 10) - 31 : Nat) : Int) by omega]; rfl
    have HF := Lib.hid hF
    clear hF
    have hfb : first + 32 ≤ 8 * (n + 10) := by have := Nat.mod_lt x (show 8 * (n + 10) - 31 > 0 by omega); omega
    have hopn := ftake_burst bs bs' first mask (by rw [hb.1]; omega) (by rw [hb.1]; exact hfb) hl3
    have hslen := fwrap_len bs (by rw [hb.1]; omega)
    have hcode : (fwrap bs).2 = 0 := by rw [fwrap_ok bs (by rw [hb.1]; omega)]
    rw [hb.1] at hslen
    have Hopn := Lib.hid hopn
    have Hlen := Lib.hid hslen
    have Hc := Lib.hid hcode
    clear hfirst hopn hslen hcode
    go_enter Tryd.func8, Tryd.ntmps8
    go_wp2_with fail
    refine (rwrap_any _ _ _ bs _ hb (by omega)).mono ?_
    rintro e w1 ⟨A1, c1, rfl, hown1, hb1⟩
    rw [Hlen.out] at hown1
    rw [Hlen.out, Hc.out]
    obtain ⟨g, rfl, hgb, hgl⟩ := hown1.form (by omega)
    go_wp2_with fail
    rw [HF.out]
    clear HF
    go_loopw [12] (fun i wr => ∃ k : Nat, k ≤ 32 ∧ i = .int .i64 k ∧ Own wr w.heap.size 5 (some ⟨g, 0, none⟩) (n + 10) c1 (fl (fwrap bs).1 first mask k) ∧ Below w.heap.size w wr) (fun i _ => 32 - (intOf i).toNat)
    case atStart => exact ⟨0, Nat.zero_le _, rfl, hown1, hb1⟩
    case round =>
      obtain ⟨k, hk, rfl, hown, hbw⟩ := hrel
      by_cases hlt : k < 32
      · obtain ⟨wo, rfl⟩ : ∃ wo : World, wo = wr := ⟨_, rfl⟩
        have hmb := lsb0_bsr mask k
        have hlen := fl_len (fwrap bs).1 first mask k
        rw [Hlen.out] at hlen
        obtain ⟨y, hy⟩ : ∃ y, (fl (fwrap bs).1 first mask k)[(first + k) / 8]? = some y := ⟨_, List.getElem?_eq_getElem (by omega)⟩
        have hcell := hown.cellAt _ y hy
        have hfree := hown.free ((first + k) / 8)
        have hx8 := x8_walk y ((first + k) % 8) (by omega)
        have Hy := Lib.hid hy
        have Hl2 := Lib.hid hlen
        have Hmb := Lib.hid hmb
        clear hy hlen hmb
        cases hbit : lsb0 (bsr mask k)
        · go_wp2_with fail
          go_roundw
          case rel => exact ⟨k + 1, by omega, by go_num, by rw [fl_no _ _ _ _ (Hmb.out.symm.trans hbit)]; exact hown, hbw⟩
          case measure => simp [intOf]; omega
        · go_wp2_with fail
          go_region
          go_wp2_with fail
          go_roundw
          case rel => exact ⟨k + 1, by omega, by go_num, by rw [fl_yes _ _ _ _ y (Hmb.out.symm.trans hbit) Hy.out]; exact (hown.set _ _).drew, (hbw.setCell hgb _).drew⟩
          case measure => simp [intOf]; omega
      · have e9 : k = 32 := by omega
        subst e9
        go_wp2_with (at_builtin; refine wpList_app bt rfl _ _ rfl w.heap.size _ _ _ (fl (fwrap bs).1 first mask 32) rfl hown _ _ _ _ bs' rfl (hb'.below hbw) (by omega) hbw.size ?_; intro A4 c4 w4 hown4 hg4 _; have hb4 : Below w.heap.size w w4 := below_of_grown hbw hbw.size hown (Nat.le_refl _) hg4)
        refine (take_any _ _ _ (fl (fwrap bs).1 first mask 32 ++ bs') _ hown4.bs (by omega) hown4.le (hT.stay hb4)).mono ?_
        rw [Hopn.out]
        rintro e w5 ⟨A5, c5, rfl, hown5, hb5⟩
        have f5 := hb4.trans (hb5.mono hb4.size)
        go_wp2_with fail
        refine (lives13 _ (hT.stay f5)).mono ?_
        rintro e w6 ⟨rfl, hb6⟩
        go_wp2_with fail
        go_ret
        exact ⟨by simp, f5.trans (hb6.mono f5.size)⟩
  · have hg : (decide ((500 : Int) < (n : Int)) = true) ∨ (decide ((500 : Int) < (n : Int)) = false ∧ decide ((300 : Int) < (m : Int)) = true) ∨ ((decide ((500 : Int) < (n : Int)) = false ∧ decide ((300 : Int) < (m : Int)) = false) ∧ mask = 0#32) := by
      simp only [decide_eq_true_eq, decide_eq_false_iff_not]
      by_cases h2 : mask = 0#32
      · simp only [h2, and_true]; omega
      · have h3 : ¬ (n ≤ 500 ∧ m ≤ 300) := fun h => hl ⟨h.1, h.2, h2⟩
        omega
    rcases hg with g1 | ⟨g1, g2⟩ | ⟨⟨g1, g2⟩, rfl⟩
    all_goals
      go_enter Tryd.func8, Tryd.ntmps8
      go_wp2_with fail
      refine (lives13 _ hT).mono ?_
      rintro e w4 ⟨rfl, hb4⟩
      go_wp2_with fail
      go_ret
      exact ⟨by simp, hb4⟩
end Go.Proofs.YtaaajmonabhdgaaDoor
