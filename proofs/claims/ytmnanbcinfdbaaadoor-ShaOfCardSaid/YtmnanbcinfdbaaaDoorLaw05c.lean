/- The walk of ShaOf; conditions: none beyond its hypotheses. -/
import Derived.Test.YtmnanbcinfdbaaaDoorRs2
namespace Go.Proofs.YtmnanbcinfdbaaaDoor
open Go.RowKit Go.Proofs.U
set_option linter.unusedVariables false

theorem SS.more {w : World} {lo B B' n : Nat} {A : Option Addr} {o : List (List UInt8)} (h : SS w lo B A n o) (hB : B ≤ B') : SS w lo B' A n o := by
  refine ⟨h.1, fun hn => ?_⟩
  obtain ⟨b, off, rfl, hlo, hlt, hc⟩ := h.2 hn
  refine ⟨b, off, rfl, hlo, by omega, fun j bs hj => ?_⟩
  obtain ⟨A', c', hcell, hle, hb, hbl⟩ := hc j bs hj
  exact ⟨A', c', hcell, hle, hb.more hB, hbl⟩

set_option maxRecDepth 100000 in
set_option maxHeartbeats 8000000 in
theorem shaOfLaw_any (A : Option Addr) (n c : Nat) (l : List (List UInt8)) (w : World) (h : SS w 0 w.heap.size A n l) (hbd : ∀ bs ∈ l, bs.length ≤ 140737488355328) (hn : n ≤ maxLen) (hT : Tabs w) :
    Calls Tryd.prog 6 #[.slice A n c] w (Yes w) := by
  unfold maxLen at hn
  by_cases hn20 : n ≤ 20
  · have hl := h.1
    have HL := Lib.hid hl
    clear hl
    go_enter Tryd.func6, Tryd.ntmps6
    go_wp2_with fail
    go_loop [3, 8] (fun s i => ∃ k : Nat, k ≤ n ∧ i = .int .i64 k ∧ s = .int .i64 ((total5 (l.take k) : Nat) : Int)) (fun _ i => n - (intOf i).toNat)
    case atStart => exact ⟨0, Nat.zero_le _, rfl, rfl⟩
    case round =>
      obtain ⟨k, hk, rfl, rfl⟩ := hrel
      have ht := total5_le l _ k hbd
      have hk2 : k ≤ 20 := by omega
      have ht2 : total5 (l.take k) ≤ 4222124650659840 := Nat.le_trans ht (Nat.le_trans (Nat.mul_le_mul_right _ hk2) (by decide))
      clear ht
      by_cases hlt : k < n
      · obtain ⟨b0, off, bs0, A1, c1, rfl, _, hx, hcell, _, _, _⟩ := h.at_ hlt
        have hbl := hbd bs0 (List.mem_of_getElem? hx)
        have hs := total5_snoc l k bs0 hx
        have HS := Lib.hid hs
        clear hs hx
        go_wp2_with fail
        go_round
        case rel => exact ⟨k + 1, by omega, by go_num, by rw [HS.out]; go_num⟩
        case measure => simp [intOf]; omega
      · have hkn : k = n := by omega
        have hto : total5 (l.take k) = total5 l := by rw [List.take_of_length_le (by rw [HL.out]; omega)]
        rw [hto] at ht2 ⊢
        clear hto hkn
        by_cases hsm : total5 l ≤ 1000
        · have q1 : decide ((1000 : Int) < ((total5 l : Nat) : Int)) = false := by simp; omega
          have q2 : decide ((20 : Int) < (n : Int)) = false := by simp; omega
          have hpl : (partsOf l).length ≤ 1160 := by rw [partsOf_len, HL.out]; omega
          obtain ⟨PL, hPL⟩ : ∃ PL, PL = partsOf l := ⟨_, rfl⟩
          have HPL := Lib.hid hPL
          obtain ⟨D, hD⟩ : ∃ D, D = ((Sh.dig PL).map bv).toArray := ⟨_, rfl⟩
          have heq : ∀ w', (Op.equalIn 10000 25 (.agg D) (.agg D)).run Tryd.prog w' = .ok true w' := fun w' => by rw [hD]; exact dig_eq _ w'
          have HD := Lib.hid hD
          rw [← hPL] at hpl
          clear hD hPL
          go_wp2_with fail
          refine (shaOf_any A n c l w h hn20 hsm hT).mono ?_
          rintro e w1 ⟨rfl, hb1⟩
          rw [← HPL.out, ← HD.out]
          go_wp2_with fail
          refine (rparts_any A n c l w1 (SS.more (h.below hb1) hb1.size) hn20 hsm).mono ?_
          rintro e w2 ⟨A2, c2, rfl, hown2, hb2⟩
          rw [← HPL.out] at hown2 ⊢
          have hbw2 := hb1.trans (hb2.mono hb1.size)
          go_wp2_with fail
          refine (sumP_any A2 PL.length c2 PL w2 hown2.bs hown2.le (by omega) (hT.stay hbw2)).mono ?_
          rintro e w3 ⟨rfl, hb3⟩
          rw [← HD.out]
          have hbw3 := hbw2.trans (hb3.mono hbw2.size)
          go_wp2_with fail
          refine (lives05 w3 (hT.stay hbw3)).mono ?_
          rintro e w4 ⟨rfl, hb4⟩
          go_wp2_with fail
          go_ret
          exact ⟨by simp, hbw3.trans (hb4.mono hbw3.size)⟩
        · have q1 : decide ((1000 : Int) < ((total5 l : Nat) : Int)) = true := by simp; omega
          go_wp2_with fail
          refine (lives05 w hT).mono ?_
          rintro e w1 ⟨rfl, hb1⟩
          go_wp2_with fail
          go_ret
          exact ⟨by simp, hb1⟩
  · have q2 : decide ((20 : Int) < (n : Int)) = true := by simp; omega
    go_enter Tryd.func6, Tryd.ntmps6
    go_wp2_with fail
    go_loop [3, 8] (fun s i => ∃ (k : Nat) (z : Int), k ≤ n ∧ i = .int .i64 k ∧ s = .int .i64 z) (fun _ i => n - (intOf i).toNat)
    case atStart => exact ⟨0, 0, Nat.zero_le _, rfl, rfl⟩
    case round =>
      obtain ⟨k, z, hk, rfl, rfl⟩ := hrel
      by_cases hlt : k < n
      · obtain ⟨b0, off, bs0, A1, c1, rfl, _, hx, hcell, _, _, _⟩ := h.at_ hlt
        clear hx
        go_wp2_with fail
        go_round
        case rel => exact ⟨k + 1, _, by omega, by go_num, rfl⟩
        case measure => simp [intOf]; omega
      · by_cases hz : (1000 : Int) < z
        · have q1 : decide ((1000 : Int) < z) = true := by simp; omega
          go_wp2_with fail
          refine (lives05 w hT).mono ?_
          rintro e w1 ⟨rfl, hb1⟩
          go_wp2_with fail
          go_ret
          exact ⟨by simp, hb1⟩
        · have q1 : decide ((1000 : Int) < z) = false := by simp; omega
          go_wp2_with fail
          refine (lives05 w hT).mono ?_
          rintro e w1 ⟨rfl, hb1⟩
          go_wp2_with fail
          go_ret
          exact ⟨by simp, hb1⟩
end Go.Proofs.YtmnanbcinfdbaaaDoor
