/- The walk of the statement RollGoes of layer 6; conditions: none beyond its hypotheses. -/
import Derived.Test.YtaaajmonabhdgaaSkip
namespace Go.Proofs.Ytaaajmonabhdgaa
open Go.RowKit Go.Proofs.U
set_option linter.unusedVariables false

set_option maxHeartbeats 1000000 in
theorem goes_none (A : Option Addr) (N c : Nat) (x : Int) (A' : Option Addr) (m d : Nat) (w : World) (hN : N ≤ 600) (hm : m ≤ 300) (hx : x < 1 ∨ (N : Int) < x) :
    Calls Try.prog 5 #[.slice A N c, .int .i64 x, .slice A' m d] w (Yes w) := by
  have g1 : decide ((600 : Int) < (N : Int)) = false := by simp; omega
  have g2 : decide ((300 : Int) < (m : Int)) = false := by simp; omega
  have hg : decide (x < 1) = true ∨ (decide (x < 1) = false ∧ decide ((N : Int) < x) = true) := by simp; omega
  rcases hg with q1 | ⟨q1, q2⟩
  all_goals
    go_enter Try.func5, Try.ntmps5
    go_wp2_with fail
    refine (over_no A N c x w (by unfold maxLen; omega) hx).mono ?_
    rintro e w' ⟨rfl, rfl⟩
    go_wp2_with fail
    refine (nextNil_any _).mono ?_
    rintro e w1 ⟨rfl, q, rfl⟩
    go_wp2_with fail
    refine (skipNil_any 0 _).mono ?_
    rintro e w1 ⟨rfl, q', rfl⟩
    go_wp2_with fail
    refine (winNil_sum _).mono ?_
    rintro e w' ⟨rfl, rfl⟩
    go_wp2_with fail
    refine (winNil_at _).mono ?_
    rintro e w' ⟨rfl, rfl⟩
    go_wp2_with fail
    refine (lives06 _).mono ?_
    rintro e w4 ⟨rfl, hb4⟩
    go_wp2_with fail
    go_ret
    exact ⟨by simp, ((below_drewN (Below.refl _ _) _)).trans hb4⟩

set_option maxHeartbeats 2000000 in
theorem goes_some (b off N c n : Nat) (bs : List UInt8) (A' : Option Addr) (m d : Nat) (zs : List Int) (w : World) (hb : BS w w.heap.size (some ⟨b, off, none⟩) N bs) (hz : VS w w.heap.size A' m (zs.map (Value.int .i64))) (hzb : ∀ z ∈ zs, -9223372036854775808 ≤ z ∧ z ≤ 9223372036854775807)
    (hN : N ≤ 600) (hc : N ≤ c) (hm : m ≤ 300) (h1 : 1 ≤ n) (h2 : n ≤ N) :
    Calls Try.prog 5 #[.slice (some ⟨b, off, none⟩) N c, .int .i64 (n : Int), .slice A' m d] w (Yes w) := by
  have g1 : decide ((600 : Int) < (N : Int)) = false := by simp; omega
  have g2 : decide ((300 : Int) < (m : Int)) = false := by simp; omega
  have q1 : decide ((n : Int) < 1) = false := by simp; omega
  have q2 : decide ((N : Int) < (n : Int)) = false := by simp; omega
  have q3 : decide (N < n) = false := by simp; omega
  go_enter Try.func5, Try.ntmps5
  go_wp2_with fail
  refine (over_yes b off N c n bs w hb (by omega) hc h1 h2).mono ?_
  rintro e w1 ⟨g, rfl, hg, hw1, hb1⟩
  go_wp2_with fail
  clear g1 g2 q1 q2 q3
  go_loopw [8, 61] (fun t i wr => ∃ j a : Nat, j ≤ m ∧ a + n ≤ N ∧ i = .int .i64 j ∧ t = .int .i64 a ∧ Win wr g b off N c n a bs ∧ Below w.heap.size w wr) (fun _ i _ => m - (intOf i).toNat)
  case atStart => exact ⟨0, 0, Nat.zero_le _, by omega, rfl, rfl, hw1, hb1⟩
  case round =>
    obtain ⟨j, a, hj, ha, rfl, rfl, hwr, hbw⟩ := hrel
    obtain ⟨wo, rfl⟩ : ∃ wo : World, wo = wr := ⟨_, rfl⟩
    by_cases hjm : j < m
    · obtain ⟨b', off', v, rfl, hbB, hx, hcell⟩ := (hz.below hbw).at_ hjm
      obtain ⟨z, hzz, rfl⟩ : ∃ z, z ∈ zs ∧ v = .int .i64 z := by
        simp only [List.getElem?_map, Option.map_eq_some_iff] at hx
        obtain ⟨z, hz1, hz2⟩ := hx
        exact ⟨z, List.mem_of_getElem? hz1, hz2.symm⟩
      obtain ⟨z0, z1⟩ := hzb z hzz
      have hbs := (hb.below hbw).more hg
      clear hx
      have hsplit : (0 ≤ z ∧ z ≤ (N : Int) - n - a) ∨ (z < 0 ∨ (N : Int) - n - a < z) := by omega
      rcases hsplit with hcan | hcan
      · by_cases hk1 : z = 1
        · subst hk1
          have p1 : decide ((1 : Int) ≤ (N : Int) - n - a) = true := by simp; omega
          go_wp2_with fail
          refine (next_yes g b off N c n a bs wo hwr hbs (by omega) hc h1 (by omega)).mono ?_
          rintro e W ⟨rfl, hW, hgW⟩
          have hbW : Below w.heap.size w W := hbw.grown hgW hbw.size (fun k hk => by injection hk; omega)
          go_wp2_with fail
          rw [show ((a : Int) + 1) = ((a + 1 : Nat) : Int) by omega]
          have ha2 : a + 1 + n ≤ N := by omega
          clear p1
          generalize a + 1 = a2 at hW ha2 ⊢
          clear hz hcell hbs hwr hbw hzz hcan
          have hbsW := (hb.below hbW).more hg
          have i1 : IntKind.i64.wrap ((a2 : Int) + n) = (a2 : Int) + n := IntWalk.i64_in _ (by omega)
          have i2 : (0 : Int) ≤ (a2 : Int) + n := by omega
          have i3 : ((a2 : Int) + n).toNat = a2 + n := by omega
          have i4 : (a2 : Int) ≤ (a2 : Int) + n := by omega
          have i5 : (a2 : Int) + n ≤ (c : Int) := by omega
          have i6 : ¬ c = a2 := by omega
          have i7 : a2 + n - a2 = n := by omega
          refine wp_region_class (C := fun w' => Below W.heap.size W w') (by kernel_rfl) (by kernel_rfl) ((Below.refl _ _).drew) ?_
          repeat
            (first
              | go_big_quiet_skip
              | (go_big_quiet_want
                 apply Exists.intro
                 refine ⟨fun w' hw' => ?_, ?_⟩
                 · go_simp
                   first
                     | done
                     | rfl
                     | ((with_reducible refine (winAt_any g b off N c n a2 bs w' (hW.stay hw')).mono ?_)
                        rintro e w1 ⟨rfl, rfl⟩
                        exact ⟨rfl, hw'⟩)
                     | ((with_reducible refine (winSum_any g b off N c n a2 bs w' (hW.stay hw')).mono ?_)
                        rintro e w1 ⟨rfl, hb1⟩
                        exact ⟨rfl, hw'.trans (hb1.mono hw'.size)⟩)
                     | ((with_reducible refine (rrsum_any _ _ _ (inw bs n a2) w' g (((hbsW.keep (fun p hp => hw'.cell (Nat.lt_trans hp hW.lt))).drop (k := a2) (by omega)).take (by omega)) (by omega)).mono ?_)
                        rintro e w1 ⟨rfl, rfl⟩
                        exact ⟨rfl, hw'⟩)
                 go_big_quiet_on
                 go_simp))
          refine wpQuiet_nil ?_
          intro w' hw'
          clear i1 i2 i3 i4 i5 i6 i7
          go_wp2_with fail
          go_roundw
          case rel => exact ⟨j + 1, a2, by omega, ha2, by go_num, rfl, hW.stay hw', hbW.trans (hw'.mono hbW.size)⟩
          case measure => simp [intOf]; omega
        · obtain ⟨k, rfl⟩ := Int.eq_ofNat_of_zero_le hcan.1
          have p1 : decide ((0 : Int) ≤ (k : Int)) = true := by simp
          have p2 : decide ((k : Int) ≤ (N : Int) - n - a) = true := by simp; omega
          have p3 : ((k : Int) == 1) = false := by simpa using hk1
          go_wp2_with fail
          refine (skip_yes g b off N c n a bs wo hwr hbs (by omega) hc h1 k (by omega)).mono ?_
          rintro e W ⟨rfl, hW, hgW⟩
          have hbW : Below w.heap.size w W := hbw.grown hgW hbw.size (fun k hk => by injection hk; omega)
          go_wp2_with fail
          rw [show ((a : Int) + (k : Int)) = ((a + k : Nat) : Int) by omega]
          have ha2 : a + k + n ≤ N := by omega
          clear p1 p2 p3
          generalize a + k = a2 at hW ha2 ⊢
          clear hz hcell hbs hwr hbw hzz hcan
          have hbsW := (hb.below hbW).more hg
          have i1 : IntKind.i64.wrap ((a2 : Int) + n) = (a2 : Int) + n := IntWalk.i64_in _ (by omega)
          have i2 : (0 : Int) ≤ (a2 : Int) + n := by omega
          have i3 : ((a2 : Int) + n).toNat = a2 + n := by omega
          have i4 : (a2 : Int) ≤ (a2 : Int) + n := by omega
          have i5 : (a2 : Int) + n ≤ (c : Int) := by omega
          have i6 : ¬ c = a2 := by omega
          have i7 : a2 + n - a2 = n := by omega
          refine wp_region_class (C := fun w' => Below W.heap.size W w') (by kernel_rfl) (by kernel_rfl) ((Below.refl _ _).drew) ?_
          repeat
            (first
              | go_big_quiet_skip
              | (go_big_quiet_want
                 apply Exists.intro
                 refine ⟨fun w' hw' => ?_, ?_⟩
                 · go_simp
                   first
                     | done
                     | rfl
                     | ((with_reducible refine (winAt_any g b off N c n a2 bs w' (hW.stay hw')).mono ?_)
                        rintro e w1 ⟨rfl, rfl⟩
                        exact ⟨rfl, hw'⟩)
                     | ((with_reducible refine (winSum_any g b off N c n a2 bs w' (hW.stay hw')).mono ?_)
                        rintro e w1 ⟨rfl, hb1⟩
                        exact ⟨rfl, hw'.trans (hb1.mono hw'.size)⟩)
                     | ((with_reducible refine (rrsum_any _ _ _ (inw bs n a2) w' g (((hbsW.keep (fun p hp => hw'.cell (Nat.lt_trans hp hW.lt))).drop (k := a2) (by omega)).take (by omega)) (by omega)).mono ?_)
                        rintro e w1 ⟨rfl, rfl⟩
                        exact ⟨rfl, hw'⟩)
                 go_big_quiet_on
                 go_simp))
          refine wpQuiet_nil ?_
          intro w' hw'
          clear i1 i2 i3 i4 i5 i6 i7
          go_wp2_with fail
          go_roundw
          case rel => exact ⟨j + 1, a2, by omega, ha2, by go_num, rfl, hW.stay hw', hbW.trans (hw'.mono hbW.size)⟩
          case measure => simp [intOf]; omega
      · have hzc : (decide (0 ≤ z) = false ∧ (z == 1) = false) ∨ (z = 1 ∧ decide ((1 : Int) ≤ (N : Int) - n - a) = false) ∨ ((decide (0 ≤ z) = true ∧ (z == 1) = false) ∧ decide (z ≤ (N : Int) - n - a) = false) := by
          simp; omega
        rcases hzc with ⟨p1, p2⟩ | ⟨rfl, p1⟩ | ⟨⟨p1, p2⟩, p3⟩
        all_goals
          go_wp2_with fail
          first
            | ((with_reducible refine (next_no g b off N c n a bs wo hwr (by omega) h2 (by omega) (by omega)).mono ?_); rintro e W ⟨rfl, q, hq⟩)
            | ((with_reducible refine (skip_no g b off N c n a bs wo hwr (by omega) h2 (by omega) _ hcan).mono ?_); rintro e W ⟨rfl, q, hq⟩)
          have hW : Win W g b off N c n a bs := by rw [hq]; exact Blk.drewN hwr q
          have hbW : Below w.heap.size w W := by rw [hq]; exact below_drewN hbw q
          clear hq
          go_wp2_with fail
          have ha2 := ha
          try clear p1
          try clear p2
          try clear p3
          generalize a = a2 at hW ha2 ⊢
          clear hz hcell hbs hwr hbw hzz hcan
          have hbsW := (hb.below hbW).more hg
          have i1 : IntKind.i64.wrap ((a2 : Int) + n) = (a2 : Int) + n := IntWalk.i64_in _ (by omega)
          have i2 : (0 : Int) ≤ (a2 : Int) + n := by omega
          have i3 : ((a2 : Int) + n).toNat = a2 + n := by omega
          have i4 : (a2 : Int) ≤ (a2 : Int) + n := by omega
          have i5 : (a2 : Int) + n ≤ (c : Int) := by omega
          have i6 : ¬ c = a2 := by omega
          have i7 : a2 + n - a2 = n := by omega
          refine wp_region_class (C := fun w' => Below W.heap.size W w') (by kernel_rfl) (by kernel_rfl) ((Below.refl _ _).drew) ?_
          repeat
            (first
              | go_big_quiet_skip
              | (go_big_quiet_want
                 apply Exists.intro
                 refine ⟨fun w' hw' => ?_, ?_⟩
                 · go_simp
                   first
                     | done
                     | rfl
                     | ((with_reducible refine (winAt_any g b off N c n a2 bs w' (hW.stay hw')).mono ?_)
                        rintro e w1 ⟨rfl, rfl⟩
                        exact ⟨rfl, hw'⟩)
                     | ((with_reducible refine (winSum_any g b off N c n a2 bs w' (hW.stay hw')).mono ?_)
                        rintro e w1 ⟨rfl, hb1⟩
                        exact ⟨rfl, hw'.trans (hb1.mono hw'.size)⟩)
                     | ((with_reducible refine (rrsum_any _ _ _ (inw bs n a2) w' g (((hbsW.keep (fun p hp => hw'.cell (Nat.lt_trans hp hW.lt))).drop (k := a2) (by omega)).take (by omega)) (by omega)).mono ?_)
                        rintro e w1 ⟨rfl, rfl⟩
                        exact ⟨rfl, hw'⟩)
                 go_big_quiet_on
                 go_simp))
          refine wpQuiet_nil ?_
          intro w' hw'
          clear i1 i2 i3 i4 i5 i6 i7
          go_wp2_with fail
          go_roundw
          case rel => exact ⟨j + 1, a2, by omega, ha2, by go_num, rfl, hW.stay hw', hbW.trans (hw'.mono hbW.size)⟩
          case measure => simp [intOf]; omega
    · go_wp2_with fail
      refine (lives06 _).mono ?_
      rintro e w4 ⟨rfl, hb4⟩
      go_wp2_with fail
      go_ret
      exact ⟨by simp, hbw.trans (hb4.mono hbw.size)⟩
end Go.Proofs.Ytaaajmonabhdgaa
