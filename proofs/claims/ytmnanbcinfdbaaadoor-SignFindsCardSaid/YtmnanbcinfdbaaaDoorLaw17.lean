/- SignBest; conditions: none beyond its hypotheses. -/
import Derived.Test.YtmnanbcinfdbaaaDoorSg7
namespace Go.Proofs.YtmnanbcinfdbaaaDoor
open Go.RowKit Go.Proofs.U
set_option linter.unusedVariables false
set_option maxHeartbeats 1000000 in
theorem rbest_any (n : Int) (w : World) : Calls Tryd.prog 43 #[.int .i64 n] w fun e w' => e = .returned (.int .i64 (bst n 60 : Int)) ∧ w = w' := by
  obtain ⟨R, hR⟩ : ∃ R, R = bst n 60 := ⟨_, rfl⟩
  rw [← hR]
  go_enter Tryd.func43, Tryd.ntmps43
  go_wp2_with fail
  go_loopg [3] 60 (fun r i wr => ∃ k : Nat, r + k = 64 ∧ 4 ≤ k ∧ i = .int .i64 (k : Int) ∧ R = bst n (64 - k) ∧ wr = w)
  case atStart => exact ⟨4, by omega, by omega, rfl, hR, rfl⟩
  case round =>
    obtain ⟨k, hgk, h4, rfl, hk, rfl⟩ := hrel
    have HGK := Lib.hid (And.intro hgk hk)
    by_cases hlt : k < 64
    · have t1 : decide ((k : Int) < 64) = true := by simp; omega
      have hw := sq_wrap k (by omega)
      obtain ⟨q, hq⟩ : ∃ q, q = k * k := ⟨_, rfl⟩
      rw [← hq] at hw
      have hst : bst n (64 - k) = if n ≤ (q : Int) then k else bst n (64 - (k + 1)) := by
        have e : 64 - k = (63 - k) + 1 := by omega
        rw [e, bst, show 63 - (63 - k) = k by omega, ← hq, show 64 - (k + 1) = 63 - k by omega]
      have HST := Lib.hid hst
      clear hgk hk hR hst hq
      by_cases hn : n ≤ (q : Int)
      · have t2 : decide (n ≤ (q : Int)) = true := by simpa using hn
        have hRk : R = k := by rw [HGK.out.2, HST.out, if_pos (by omega)]
        subst hRk
        go_wp2_with fail
        go_ret
        exact ⟨rfl, rfl⟩
      · have t2 : decide (n ≤ (q : Int)) = false := by simpa using hn
        go_wp2_with fail
        go_roundg (gk - 1)
        case measure => have := HGK.out.1; omega
        case rel => exact ⟨k + 1, by have := HGK.out.1; omega, by omega, by go_num, by rw [HGK.out.2, HST.out, if_neg (by omega)], rfl⟩
    · obtain rfl : k = 64 := by omega
      have hR64 : R = 64 := hk
      have t1 : decide (((64 : Nat) : Int) < 64) = false := by decide
      subst hR64
      clear hgk hk hR
      go_wp2_with fail
      go_ret
      exact ⟨rfl, rfl⟩
theorem zero_eq (w : World) : (Op.equalIn 10000 25 (.agg (Z32.map bv).toArray) (.agg (Z32.map bv).toArray)).run Tryd.prog w = .ok true w :=
  run_eq_arr w 9998 _ 5 32 .u8 _ Tryd.underlying25 Tryd.underlying5 (by kernel_rfl) fun i hi => by
    have hl : Z32.length = 32 := rfl
    exact ⟨(Z32[i]'(by omega)).toNat, by simp [bv, hl, hi]⟩
theorem zero_built (w : World) : (Instr.build 25 #[]).run Tryd.prog w = .ok (.agg (Z32.map bv).toArray) w := run_build w _ _ _ (by kernel_rfl)
set_option maxRecDepth 100000 in
set_option maxHeartbeats 4000000 in
theorem signBest_any (n i : Int) (w : World) (hT : Tabs w) : Calls Tryd.prog 9 #[.int .i64 n, .int .i64 i] w (Yes w) := by
  obtain ⟨ZZ, hZZ⟩ : ∃ ZZ, ZZ = (Z32.map bv).toArray := ⟨_, rfl⟩
  have ke : ∀ w, (Op.equalIn 10000 25 (.agg ZZ) (.agg #[.int .u8 0, .int .u8 0, .int .u8 0, .int .u8 0, .int .u8 0, .int .u8 0, .int .u8 0, .int .u8 0, .int .u8 0, .int .u8 0, .int .u8 0, .int .u8 0, .int .u8 0, .int .u8 0, .int .u8 0, .int .u8 0, .int .u8 0, .int .u8 0, .int .u8 0, .int .u8 0, .int .u8 0, .int .u8 0, .int .u8 0, .int .u8 0, .int .u8 0, .int .u8 0, .int .u8 0, .int .u8 0, .int .u8 0, .int .u8 0, .int .u8 0, .int .u8 0])).run Tryd.prog w = .ok true w := fun w => by rw [hZZ]; exact zero_eq w
  have ks := fun w => strong_of w (.pointer none) i (fun w => hasNil w i)
  rw [← hZZ] at ks
  clear hZZ
  obtain ⟨R, hR⟩ : ∃ R, R = bst n 60 := ⟨_, rfl⟩
  have k1 := best_any n
  have k2 := rbest_any n
  rw [← hR] at k1 k2
  clear hR
  go_enter Tryd.func9, Tryd.ntmps9
  go_wp2_with fail
  refine (findNil_any w 0 none 0 0).mono ?_
  rintro e w' ⟨rfl, rfl⟩
  go_wp2_with fail
  refine (sizeNil_any w).mono ?_
  rintro e w' ⟨rfl, rfl⟩
  go_wp2_with fail
  refine (lenNil_any w).mono ?_
  rintro e w' ⟨rfl, rfl⟩
  go_wp2_with fail
  refine (weakNil_any w i).mono ?_
  rintro e w' ⟨rfl, rfl⟩
  go_wp2_with fail
  refine (ks w).mono ?_
  rintro e w1 ⟨rfl, hb1⟩
  go_wp2_with fail
  refine (blockNil_any w1 i).mono ?_
  rintro e w' ⟨rfl, rfl⟩
  go_wp2_with fail
  refine (isNil_any w1 i _).mono ?_
  rintro e w' ⟨rfl, rfl⟩
  go_wp2_with fail
  refine (k1 w1).mono ?_
  rintro e w' ⟨rfl, rfl⟩
  go_wp2_with fail
  refine (k2 w1).mono ?_
  rintro e w' ⟨rfl, rfl⟩
  go_wp2_with fail
  refine (lives17 w1 (hT.stay hb1)).mono ?_
  rintro e w2 ⟨rfl, hb2⟩
  go_wp2_with fail
  go_ret
  exact ⟨rfl, hb1.trans (hb2.mono hb1.size)⟩
end Go.Proofs.YtmnanbcinfdbaaaDoor
