/- The walks of the reference of sha: words turned and moved right; conditions: none beyond their hypotheses. -/
import Derived.Test.YtmnanbcinfdbaaaDoorSh2
namespace Go.Proofs.YtmnanbcinfdbaaaDoor
open Go.RowKit Go.Proofs.U
set_option linter.unusedVariables false

theorem rotr_zero (x : BitVec 32) : Sh.rotr x 0 = x := by
  apply BitVec.eq_of_getLsbD_eq
  intro i hi
  rw [Sh.rotr_lsb x 0 i (by omega) hi, if_pos (by omega)]; rfl
theorem rotr_step (y : BitVec 32) : ((y.toNat : Int) / 2 + (y.toNat : Int) % 2 * 2147483648 % 4294967296) % 4294967296 = ((Sh.rotr y 1).toNat : Int) := by
  have h : (Sh.rotr y 1).toNat = y.toNat / 2 + y.toNat % 2 * 2147483648 := by
    unfold Sh.rotr
    rw [BitVec.toNat_or, BitVec.toNat_shiftLeft, BitVec.toNat_ushiftRight]
    have e1 : y.toNat <<< (32 - 1) % 2 ^ 32 = (y.toNat % 2) <<< 31 := by
      rw [Nat.shiftLeft_eq, Nat.shiftLeft_eq]; omega
    rw [e1, Nat.shiftRight_eq_div_pow, Nat.or_comm, Nat.or_comm, ← Nat.shiftLeft_add_eq_or_of_lt (by have := y.isLt; omega), Nat.shiftLeft_eq]
    omega
  rw [h]; have := y.isLt; omega
set_option maxHeartbeats 1000000 in
theorem right_any (x : BitVec 32) (m : Nat) (hm : m ≤ 32) (w : World) : Calls Tryd.prog 98 #[.int .u32 (x.toNat : Int), .int .i64 (m : Int)] w fun e w' => e = .returned (.int .u32 ((Sh.rotr x m).toNat : Int)) ∧ w = w' := by
  go_enter Tryd.func98, Tryd.ntmps98
  go_wp2_with fail
  go_loop [0, 5] (fun y i => ∃ k : Nat, k ≤ m ∧ i = .int .i64 k ∧ y = .int .u32 ((Sh.rotr x k).toNat : Int)) (fun _ i => m - (intOf i).toNat)
  case atStart => exact ⟨0, Nat.zero_le _, rfl, by rw [rotr_zero]⟩
  case round =>
    obtain ⟨k, hk, rfl, rfl⟩ := hrel
    by_cases hlt : k < m
    · have hs := Sh.rotr_one x k (by omega)
      obtain ⟨y, hy⟩ : ∃ y, y = Sh.rotr x k := ⟨_, rfl⟩
      rw [← hy] at hs ⊢
      have HS := Lib.hid hs
      clear hs hy
      go_wp2_with fail
      go_round
      case rel => exact ⟨k + 1, by omega, by go_num, by rw [← HS.out, ← rotr_step]; first | rfl | simp [go_sem]⟩
      case measure => simp [intOf]; omega
    · obtain rfl : k = m := by omega
      go_wp2_with fail
      go_ret
      exact ⟨rfl, rfl⟩
set_option maxHeartbeats 1000000 in
theorem down_any (x : BitVec 32) (m : Nat) (hm : m ≤ 32) (w : World) : Calls Tryd.prog 99 #[.int .u32 (x.toNat : Int), .int .i64 (m : Int)] w fun e w' => e = .returned (.int .u32 ((bsr x m).toNat : Int)) ∧ w = w' := by
  go_enter Tryd.func99, Tryd.ntmps99
  go_wp2_with fail
  go_loop [0, 5] (fun y i => ∃ k : Nat, k ≤ m ∧ i = .int .i64 k ∧ y = .int .u32 ((bsr x k).toNat : Int)) (fun _ i => m - (intOf i).toNat)
  case atStart => exact ⟨0, Nat.zero_le _, rfl, by simp [bsr]⟩
  case round =>
    obtain ⟨k, hk, rfl, rfl⟩ := hrel
    by_cases hlt : k < m
    · have hs : bsr (bsr x k) 1 = bsr x (k + 1) := by unfold bsr; rw [BitVec.shiftRight_add]
      obtain ⟨y, hy⟩ : ∃ y, y = bsr x k := ⟨_, rfl⟩
      rw [← hy] at hs ⊢
      have HS := Lib.hid hs
      clear hs hy
      go_wp2_with fail
      go_round
      case rel => exact ⟨k + 1, by omega, by go_num, by rw [← HS.out]⟩
      case measure => simp [intOf]; omega
    · obtain rfl : k = m := by omega
      go_wp2_with fail
      go_ret
      exact ⟨rfl, rfl⟩
theorem right7 (x : BitVec 32) (w : World) : Calls Tryd.prog 98 #[.int .u32 (x.toNat : Int), .int .i64 7] w fun e w' => e = .returned (.int .u32 ((Sh.rotr x 7).toNat : Int)) ∧ w = w' := right_any x 7 (by omega) w
theorem right18 (x : BitVec 32) (w : World) : Calls Tryd.prog 98 #[.int .u32 (x.toNat : Int), .int .i64 18] w fun e w' => e = .returned (.int .u32 ((Sh.rotr x 18).toNat : Int)) ∧ w = w' := right_any x 18 (by omega) w
theorem right17 (x : BitVec 32) (w : World) : Calls Tryd.prog 98 #[.int .u32 (x.toNat : Int), .int .i64 17] w fun e w' => e = .returned (.int .u32 ((Sh.rotr x 17).toNat : Int)) ∧ w = w' := right_any x 17 (by omega) w
theorem right19 (x : BitVec 32) (w : World) : Calls Tryd.prog 98 #[.int .u32 (x.toNat : Int), .int .i64 19] w fun e w' => e = .returned (.int .u32 ((Sh.rotr x 19).toNat : Int)) ∧ w = w' := right_any x 19 (by omega) w
theorem right6 (x : BitVec 32) (w : World) : Calls Tryd.prog 98 #[.int .u32 (x.toNat : Int), .int .i64 6] w fun e w' => e = .returned (.int .u32 ((Sh.rotr x 6).toNat : Int)) ∧ w = w' := right_any x 6 (by omega) w
theorem right11 (x : BitVec 32) (w : World) : Calls Tryd.prog 98 #[.int .u32 (x.toNat : Int), .int .i64 11] w fun e w' => e = .returned (.int .u32 ((Sh.rotr x 11).toNat : Int)) ∧ w = w' := right_any x 11 (by omega) w
theorem right25 (x : BitVec 32) (w : World) : Calls Tryd.prog 98 #[.int .u32 (x.toNat : Int), .int .i64 25] w fun e w' => e = .returned (.int .u32 ((Sh.rotr x 25).toNat : Int)) ∧ w = w' := right_any x 25 (by omega) w
theorem right2 (x : BitVec 32) (w : World) : Calls Tryd.prog 98 #[.int .u32 (x.toNat : Int), .int .i64 2] w fun e w' => e = .returned (.int .u32 ((Sh.rotr x 2).toNat : Int)) ∧ w = w' := right_any x 2 (by omega) w
theorem right13 (x : BitVec 32) (w : World) : Calls Tryd.prog 98 #[.int .u32 (x.toNat : Int), .int .i64 13] w fun e w' => e = .returned (.int .u32 ((Sh.rotr x 13).toNat : Int)) ∧ w = w' := right_any x 13 (by omega) w
theorem right22 (x : BitVec 32) (w : World) : Calls Tryd.prog 98 #[.int .u32 (x.toNat : Int), .int .i64 22] w fun e w' => e = .returned (.int .u32 ((Sh.rotr x 22).toNat : Int)) ∧ w = w' := right_any x 22 (by omega) w
theorem down3 (x : BitVec 32) (w : World) : Calls Tryd.prog 99 #[.int .u32 (x.toNat : Int), .int .i64 3] w fun e w' => e = .returned (.int .u32 ((bsr x 3).toNat : Int)) ∧ w = w' := down_any x 3 (by omega) w
theorem down10 (x : BitVec 32) (w : World) : Calls Tryd.prog 99 #[.int .u32 (x.toNat : Int), .int .i64 10] w fun e w' => e = .returned (.int .u32 ((bsr x 10).toNat : Int)) ∧ w = w' := down_any x 10 (by omega) w
end Go.Proofs.YtmnanbcinfdbaaaDoor
