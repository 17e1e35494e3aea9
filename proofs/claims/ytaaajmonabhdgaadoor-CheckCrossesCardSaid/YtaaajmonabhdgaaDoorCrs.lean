/- The walks of check.step, check.product and check.Cross; conditions: none beyond their hypotheses. -/
import Derived.Test.YtaaajmonabhdgaaDoorCk
import Derived.Test.YtaaajmonabhdgaaDoorCross
import Derived.Deep.LoopGhost
namespace Go.Proofs.YtaaajmonabhdgaaDoor
open Go.RowKit Go.Proofs.U
set_option linter.unusedVariables false

set_option maxHeartbeats 400000 in
theorem step_any (a : BitVec 32) (w : World) :
    Calls Tryd.prog 45 #[.int .u32 (a.toNat : Int)] w fun e w' => e = .returned (.int .u32 ((Crc.bit a).toNat : Int)) ∧ w = w' := by
  cases hbit : lsb0 a
  all_goals
    go_enter Tryd.func45, Tryd.ntmps45
    go_wp2
    go_ret
    exact ⟨congrArg Ending.returned (int_u32 (by first | exact bit_f hbit | exact bit_t hbit)), rfl⟩

theorem msb_shl (a : BitVec 32) (k : Nat) (hk : k < 32) : msb (bsl a k) = a.getLsbD (31 - k) := by
  unfold msb bsl
  rw [BitVec.getLsbD_shiftLeft]
  simp [show ¬ 31 < k by omega]
theorem shl_succ (a : BitVec 32) (k : Nat) : bsl (bsl a k) 1 = bsl a (k + 1) := by
  unfold bsl; rw [← BitVec.shiftLeft_add]
theorem shl_32 (a : BitVec 32) (k : Nat) (hk : 32 ≤ k) : bsl a k = 0#32 := by
  unfold bsl; exact BitVec.shiftLeft_eq_zero (by omega)

set_option maxHeartbeats 400000 in
theorem product_any (a b : BitVec 32) (w : World) :
    Calls Tryd.prog 42 #[.int .u32 (a.toNat : Int), .int .u32 (b.toNat : Int)] w fun e w' => e = .returned (.int .u32 ((Crc.prod a b).toNat : Int)) ∧ w = w' := by
  go_enter Tryd.func42, Tryd.ntmps42
  go_wp2
  go_loopg [0, 1, 4] 33 (fun g x y z wr => ∃ k : Nat, k ≤ 32 ∧ 33 = g + k ∧ x = .int .u32 ((bsl a k).toNat : Int) ∧ y = .int .u32 ((Crc.bits k b).toNat : Int) ∧ z = .int .u32 ((Crc.prodTo a b k).toNat : Int) ∧ wr = w)
  case atStart => exact ⟨0, Nat.zero_le _, rfl, int_u32 (by simp [bsl]), rfl, rfl, rfl⟩
  case round =>
    obtain ⟨k, hk, hg, rfl, rfl, rfl, rfl⟩ := hrel
    by_cases h0 : bsl a k = 0#32
    · have hz : (((bsl a k).toNat : Int) != 0) = false := by rw [h0]; rfl
      have H0 := Lib.hid h0
      clear h0 hg
      go_wp2
      go_ret
      exact ⟨congrArg Ending.returned (int_u32 (Crc.prodTo_done H0.out 32 hk (Nat.le_refl _)).symm), rfl⟩
    · have hz : (((bsl a k).toNat : Int) != 0) = true := by
        have := u32_bne (bsl a k) 0#32
        rw [decide_eq_false h0] at this; exact this
      have hk2 : k < 32 := by
        rcases Nat.lt_or_ge k 32 with h | h
        · exact h
        · exact absurd (shl_32 a k h) h0
      have Hg := Lib.hid hg
      have Hm := Lib.hid (msb_shl a k hk2)
      clear h0 hg
      cases hm : msb (bsl a k)
      all_goals
        go_wp2_with fail
        refine (step_any _ _).mono ?_
        rintro e w' ⟨rfl, rfl⟩
        go_wp2_with fail
        have hmm := Hm.out
        rw [hm] at hmm
        go_roundg (32 - k)
        case measure => have := Hg.out; omega
        case rel =>
          have := Hg.out
          exact ⟨k + 1, by omega, by omega, by rw [sl1]; exact int_u32 (shl_succ a k), int_u32 (Crc.bits_succ k b).symm, int_u32 (by simp only [Crc.prodTo, ← hmm, bx]; simp), rfl⟩

theorem i64_and1 (n : Nat) (hn : n < 4294967296) : bits .and .i64 (n : Int) 1 = ((n % 2 : Nat) : Int) := by
  show IntKind.i64.wrap ((BitVec.ofInt 64 (n : Int) &&& BitVec.ofInt 64 (1 : Int)).toNat : Int) = _
  rw [BitVec.toNat_and, show (BitVec.ofInt 64 (1 : Int)).toNat = 1 by decide, BitVec.ofInt_natCast, BitVec.toNat_ofNat, Nat.mod_eq_of_lt (by omega : n < 2 ^ 64), nat_mask1, IntKind.wrap_i64]
  omega

set_option maxHeartbeats 400000 in
theorem cross_any (a b : BitVec 32) (n : Nat) (hn : n ≤ 1048576) (w : World) :
    Calls Tryd.prog 23 #[.int .u32 (a.toNat : Int), .int .u32 (b.toNat : Int), .int .i64 (n : Int)] w fun e w' => e = .returned (.int .u32 ((bx (Crc.bits (8 * n) a) b).toNat : Int)) ∧ w = w' := by
  have g1 : decide ((n : Int) < 0) = false := by simp
  have g2 : decide ((1048576 : Int) < (n : Int)) = false := by simp; omega
  go_enter Tryd.func23, Tryd.ntmps23
  go_wp2_with fail
  clear g1 g2
  go_loop [0, 2, 7] (fun x m p => ∃ k d q : Nat, ∃ P : BitVec 32, k ≤ 1048576 ∧ m = .int .i64 (k : Int) ∧ x = .int .u32 ((Crc.bits (8 * d) a).toNat : Int) ∧ p = .int .u32 (P.toNat : Int) ∧ Hid (Crc.Power P (8 * q) ∧ d + q * k = n)) (fun _ m _ => (intOf m).toNat)
  case atStart => exact ⟨n, 0, 1, 0x800000#32, hn, rfl, rfl, rfl, ⟨Crc.Power.x8, by omega⟩⟩
  case round =>
    obtain ⟨k, d, q, P, hk, rfl, rfl, rfl, hH⟩ := hrel
    by_cases h0 : k = 0
    · subst h0
      have hd := hH.2
      rw [Nat.mul_zero, Nat.add_zero] at hd
      have Hd := Lib.hid hd
      clear hd hH
      go_wp2
      go_ret
      exact ⟨by rw [Hd.out]; rfl, rfl⟩
    · have hpos : (0 : Int) < (k : Int) := by omega
      have hmod := i64_and1 k (by omega)
      have hkk : k = 2 * (k / 2) + k % 2 := by omega
      rcases Nat.mod_two_eq_zero_or_one k with h2 | h2
      all_goals
        rw [h2] at hkk hmod
        have Hkk := Lib.hid hkk
        clear hkk h2
        go_wp2_with (go_at_call 42; refine (product_any _ _ w).mono ?_; rintro e w' ⟨rfl, rfl⟩)
        obtain ⟨hP, hsum⟩ := hH
        have hk2 := Hkk.out
        have hmul : q * k = q * (2 * (k / 2)) + q * (k % 2) := by rw [← Nat.mul_add]; congr 1; omega
        have hq2 : q * (2 * (k / 2)) = 2 * q * (k / 2) := by rw [← Nat.mul_assoc, Nat.mul_comm q 2]
        have hPP : Crc.Power (Crc.prod P P) (8 * (2 * q)) := by rw [show 8 * (2 * q) = 8 * q + 8 * q by omega]; exact hP.square
        go_round
        case measure => simp [intOf]; omega
        case rel =>
          first
            | (have hk0 : k % 2 = 0 := by omega
               rw [hk0, Nat.mul_zero, Nat.add_zero] at hmul
               exact ⟨k / 2, d, 2 * q, Crc.prod P P, by omega, rfl, rfl, rfl, ⟨hPP, by omega⟩⟩)
            | (have hk1 : k % 2 = 1 := by omega
               rw [hk1, Nat.mul_one] at hmul
               exact ⟨k / 2, d + q, 2 * q, Crc.prod P P, by omega, rfl, int_u32 (by rw [hP, ← Crc.bits_add]; congr 1; omega), rfl, ⟨hPP, by omega⟩⟩)

set_option maxHeartbeats 400000 in
theorem cross_out (a b : BitVec 32) (n : Int) (hn : n < 0 ∨ 1048576 < n) (w : World) :
    Calls Tryd.prog 23 #[.int .u32 (a.toNat : Int), .int .u32 (b.toNat : Int), .int .i64 n] w fun e w' => e = .returned (.int .u32 0) ∧ w = w' := by
  by_cases h : n < 0
  · have g1 : decide (n < 0) = true := by simpa using h
    go_enter Tryd.func23, Tryd.ntmps23
    go_wp2_with fail
    go_ret
    exact ⟨rfl, rfl⟩
  · have g1 : decide (n < 0) = false := by simp; omega
    have g2 : decide (1048576 < n) = true := by simp; omega
    go_enter Tryd.func23, Tryd.ntmps23
    go_wp2_with fail
    go_ret
    exact ⟨rfl, rfl⟩
end Go.Proofs.YtaaajmonabhdgaaDoor
