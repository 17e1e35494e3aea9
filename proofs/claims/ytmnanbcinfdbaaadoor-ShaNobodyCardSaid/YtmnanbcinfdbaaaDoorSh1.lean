/- The walks of the small functions of the package sha; conditions: none beyond their hypotheses. -/
import Derived.Test.YtmnanbcinfdbaaaDoorSl
import Derived.Test.YtmnanbcinfdbaaaDoorSs
import Derived.Test.YtmnanbcinfdbaaaDoorReg
import Derived.Test.YtmnanbcinfdbaaaDoorShp
import Derived.Deep.QuietTactic
import Derived.BigQuiet
namespace Go.Proofs.YtmnanbcinfdbaaaDoor
open Go.RowKit Go.Proofs.U
set_option linter.unusedVariables false

def uv (x : BitVec 32) : Value := .int .u32 (x.toNat : Int)
theorem shr_eq (x : BitVec 32) (n : Nat) (B : Int) (hB : B = ((2 ^ n : Nat) : Int)) : ofI ((x.toNat : Int) / B) = x >>> n := by
  subst hB
  unfold ofI
  apply BitVec.eq_of_toNat_eq
  rw [BitVec.toNat_ushiftRight, Nat.shiftRight_eq_div_pow, ← Int.natCast_ediv, BitVec.ofInt_natCast, BitVec.toNat_ofNat, Nat.mod_eq_of_lt (Nat.lt_of_le_of_lt (Nat.div_le_self _ _) x.isLt)]
theorem rot_eq (x : BitVec 32) (n : Nat) (A B : Int) (hA : A = ((2 ^ (32 - n) : Nat) : Int)) (hB : B = ((2 ^ n : Nat) : Int)) : bo (ofI ((x.toNat : Int) * A % 4294967296)) (ofI ((x.toNat : Int) / B)) = Sh.rotr x n := by
  subst hA; subst hB
  unfold bo Sh.rotr ofI
  congr 1
  · apply BitVec.eq_of_toNat_eq
    have e : ((x.toNat : Int) * ((2 ^ (32 - n) : Nat) : Int) % 4294967296) = ((x.toNat * 2 ^ (32 - n) % 4294967296 : Nat) : Int) := by rw [Int.natCast_emod, Int.natCast_mul]; rfl
    rw [e, BitVec.toNat_shiftLeft, Nat.shiftLeft_eq, BitVec.ofInt_natCast, BitVec.toNat_ofNat]
    exact Nat.mod_mod _ _
  · apply BitVec.eq_of_toNat_eq
    rw [BitVec.toNat_ushiftRight, Nat.shiftRight_eq_div_pow, ← Int.natCast_ediv, BitVec.ofInt_natCast, BitVec.toNat_ofNat, Nat.mod_eq_of_lt (Nat.lt_of_le_of_lt (Nat.div_le_self _ _) x.isLt)]
set_option maxHeartbeats 400000 in
theorem rot6 (x : BitVec 32) (w : World) : Calls Tryd.prog 123 #[.int .u32 (x.toNat : Int), .int .i64 (-6)] w fun e w' => e = .returned (uv (Sh.rotr x 6)) ∧ w = w' := by
  have hk : bits BinOp.and IntKind.u64 (IntKind.u64.wrap (-6)) 31 = 26 := by decide +kernel
  go_enter Tryd.func123, Tryd.ntmps123
  go_wp2_with fail
  go_ret
  refine ⟨?_, rfl⟩
  rw [← rot_eq x 6 67108864 64 (by decide) (by decide)]; simp [uv, go_sem]
set_option maxHeartbeats 400000 in
theorem rot11 (x : BitVec 32) (w : World) : Calls Tryd.prog 123 #[.int .u32 (x.toNat : Int), .int .i64 (-11)] w fun e w' => e = .returned (uv (Sh.rotr x 11)) ∧ w = w' := by
  have hk : bits BinOp.and IntKind.u64 (IntKind.u64.wrap (-11)) 31 = 21 := by decide +kernel
  go_enter Tryd.func123, Tryd.ntmps123
  go_wp2_with fail
  go_ret
  refine ⟨?_, rfl⟩
  rw [← rot_eq x 11 2097152 2048 (by decide) (by decide)]; simp [uv, go_sem]
set_option maxHeartbeats 400000 in
theorem rot25 (x : BitVec 32) (w : World) : Calls Tryd.prog 123 #[.int .u32 (x.toNat : Int), .int .i64 (-25)] w fun e w' => e = .returned (uv (Sh.rotr x 25)) ∧ w = w' := by
  have hk : bits BinOp.and IntKind.u64 (IntKind.u64.wrap (-25)) 31 = 7 := by decide +kernel
  go_enter Tryd.func123, Tryd.ntmps123
  go_wp2_with fail
  go_ret
  refine ⟨?_, rfl⟩
  rw [← rot_eq x 25 128 33554432 (by decide) (by decide)]; simp [uv, go_sem]
set_option maxHeartbeats 400000 in
theorem rot2 (x : BitVec 32) (w : World) : Calls Tryd.prog 123 #[.int .u32 (x.toNat : Int), .int .i64 (-2)] w fun e w' => e = .returned (uv (Sh.rotr x 2)) ∧ w = w' := by
  have hk : bits BinOp.and IntKind.u64 (IntKind.u64.wrap (-2)) 31 = 30 := by decide +kernel
  go_enter Tryd.func123, Tryd.ntmps123
  go_wp2_with fail
  go_ret
  refine ⟨?_, rfl⟩
  rw [← rot_eq x 2 1073741824 4 (by decide) (by decide)]; simp [uv, go_sem]
set_option maxHeartbeats 400000 in
theorem rot13 (x : BitVec 32) (w : World) : Calls Tryd.prog 123 #[.int .u32 (x.toNat : Int), .int .i64 (-13)] w fun e w' => e = .returned (uv (Sh.rotr x 13)) ∧ w = w' := by
  have hk : bits BinOp.and IntKind.u64 (IntKind.u64.wrap (-13)) 31 = 19 := by decide +kernel
  go_enter Tryd.func123, Tryd.ntmps123
  go_wp2_with fail
  go_ret
  refine ⟨?_, rfl⟩
  rw [← rot_eq x 13 524288 8192 (by decide) (by decide)]; simp [uv, go_sem]
set_option maxHeartbeats 400000 in
theorem rot22 (x : BitVec 32) (w : World) : Calls Tryd.prog 123 #[.int .u32 (x.toNat : Int), .int .i64 (-22)] w fun e w' => e = .returned (uv (Sh.rotr x 22)) ∧ w = w' := by
  have hk : bits BinOp.and IntKind.u64 (IntKind.u64.wrap (-22)) 31 = 10 := by decide +kernel
  go_enter Tryd.func123, Tryd.ntmps123
  go_wp2_with fail
  go_ret
  refine ⟨?_, rfl⟩
  rw [← rot_eq x 22 1024 4194304 (by decide) (by decide)]; simp [uv, go_sem]
set_option maxHeartbeats 400000 in
theorem rot7 (x : BitVec 32) (w : World) : Calls Tryd.prog 123 #[.int .u32 (x.toNat : Int), .int .i64 (-7)] w fun e w' => e = .returned (uv (Sh.rotr x 7)) ∧ w = w' := by
  have hk : bits BinOp.and IntKind.u64 (IntKind.u64.wrap (-7)) 31 = 25 := by decide +kernel
  go_enter Tryd.func123, Tryd.ntmps123
  go_wp2_with fail
  go_ret
  refine ⟨?_, rfl⟩
  rw [← rot_eq x 7 33554432 128 (by decide) (by decide)]; simp [uv, go_sem]
set_option maxHeartbeats 400000 in
theorem rot18 (x : BitVec 32) (w : World) : Calls Tryd.prog 123 #[.int .u32 (x.toNat : Int), .int .i64 (-18)] w fun e w' => e = .returned (uv (Sh.rotr x 18)) ∧ w = w' := by
  have hk : bits BinOp.and IntKind.u64 (IntKind.u64.wrap (-18)) 31 = 14 := by decide +kernel
  go_enter Tryd.func123, Tryd.ntmps123
  go_wp2_with fail
  go_ret
  refine ⟨?_, rfl⟩
  rw [← rot_eq x 18 16384 262144 (by decide) (by decide)]; simp [uv, go_sem]
set_option maxHeartbeats 400000 in
theorem rot17 (x : BitVec 32) (w : World) : Calls Tryd.prog 123 #[.int .u32 (x.toNat : Int), .int .i64 (-17)] w fun e w' => e = .returned (uv (Sh.rotr x 17)) ∧ w = w' := by
  have hk : bits BinOp.and IntKind.u64 (IntKind.u64.wrap (-17)) 31 = 15 := by decide +kernel
  go_enter Tryd.func123, Tryd.ntmps123
  go_wp2_with fail
  go_ret
  refine ⟨?_, rfl⟩
  rw [← rot_eq x 17 32768 131072 (by decide) (by decide)]; simp [uv, go_sem]
set_option maxHeartbeats 400000 in
theorem rot19 (x : BitVec 32) (w : World) : Calls Tryd.prog 123 #[.int .u32 (x.toNat : Int), .int .i64 (-19)] w fun e w' => e = .returned (uv (Sh.rotr x 19)) ∧ w = w' := by
  have hk : bits BinOp.and IntKind.u64 (IntKind.u64.wrap (-19)) 31 = 13 := by decide +kernel
  go_enter Tryd.func123, Tryd.ntmps123
  go_wp2_with fail
  go_ret
  refine ⟨?_, rfl⟩
  rw [← rot_eq x 19 8192 524288 (by decide) (by decide)]; simp [uv, go_sem]
set_option maxHeartbeats 400000 in
theorem turnA (x : BitVec 32) (w : World) : Calls Tryd.prog 101 #[.int .u32 (x.toNat : Int), .int .i64 6, .int .i64 11, .int .i64 25] w fun e w' => e = .returned (uv (Sh.sg3 x 6 11 25)) ∧ w = w' := by
  go_enter Tryd.func101, Tryd.ntmps101
  go_wp2_with fail
  refine (rot6 x _).mono ?_
  rintro e w' ⟨rfl, rfl⟩
  unfold uv
  go_wp2_with fail
  refine (rot11 x _).mono ?_
  rintro e w' ⟨rfl, rfl⟩
  unfold uv
  go_wp2_with fail
  refine (rot25 x _).mono ?_
  rintro e w' ⟨rfl, rfl⟩
  unfold uv
  go_wp2_with fail
  go_ret
  exact ⟨rfl, rfl⟩
set_option maxHeartbeats 400000 in
theorem turnB (x : BitVec 32) (w : World) : Calls Tryd.prog 101 #[.int .u32 (x.toNat : Int), .int .i64 2, .int .i64 13, .int .i64 22] w fun e w' => e = .returned (uv (Sh.sg3 x 2 13 22)) ∧ w = w' := by
  go_enter Tryd.func101, Tryd.ntmps101
  go_wp2_with fail
  refine (rot2 x _).mono ?_
  rintro e w' ⟨rfl, rfl⟩
  unfold uv
  go_wp2_with fail
  refine (rot13 x _).mono ?_
  rintro e w' ⟨rfl, rfl⟩
  unfold uv
  go_wp2_with fail
  refine (rot22 x _).mono ?_
  rintro e w' ⟨rfl, rfl⟩
  unfold uv
  go_wp2_with fail
  go_ret
  exact ⟨rfl, rfl⟩
theorem rotq7 (x : BitVec 32) (w : World) (k : Nat) : Calls Tryd.prog 123 #[.int .u32 (x.toNat : Int), .int .i64 (-7)] (w.drewN k) fun e w' => e = .returned (.int .u32 ((Sh.rotr x 7).toNat : Int)) ∧ ∃ m, w' = w.drewN m :=
  (rot7 x _).mono fun e w' h => ⟨h.1, k, h.2.symm⟩
theorem rotq18 (x : BitVec 32) (w : World) (k : Nat) : Calls Tryd.prog 123 #[.int .u32 (x.toNat : Int), .int .i64 (-18)] (w.drewN k) fun e w' => e = .returned (.int .u32 ((Sh.rotr x 18).toNat : Int)) ∧ ∃ m, w' = w.drewN m :=
  (rot18 x _).mono fun e w' h => ⟨h.1, k, h.2.symm⟩
theorem rotq17 (x : BitVec 32) (w : World) (k : Nat) : Calls Tryd.prog 123 #[.int .u32 (x.toNat : Int), .int .i64 (-17)] (w.drewN k) fun e w' => e = .returned (.int .u32 ((Sh.rotr x 17).toNat : Int)) ∧ ∃ m, w' = w.drewN m :=
  (rot17 x _).mono fun e w' h => ⟨h.1, k, h.2.symm⟩
theorem rotq19 (x : BitVec 32) (w : World) (k : Nat) : Calls Tryd.prog 123 #[.int .u32 (x.toNat : Int), .int .i64 (-19)] (w.drewN k) fun e w' => e = .returned (.int .u32 ((Sh.rotr x 19).toNat : Int)) ∧ ∃ m, w' = w.drewN m :=
  (rot19 x _).mono fun e w' h => ⟨h.1, k, h.2.symm⟩
set_option maxHeartbeats 400000 in
theorem smallA (x : BitVec 32) (w : World) : Calls Tryd.prog 122 #[.int .u32 (x.toNat : Int), .int .i64 7, .int .i64 18, .int .i64 3] w fun e w' => e = .returned (uv (Sh.sg2 x 7 18 3)) ∧ Drawn w w' := by
  go_enter Tryd.func122, Tryd.ntmps122
  go_wp2_with fail
  go_quiet ((first | (go_at_call 123; with_reducible exact rotq7 x _ _) | (go_at_call 123; with_reducible exact rotq18 x _ _)))
  go_wp2_with fail
  go_ret
  refine ⟨?_, ⟨_, rfl⟩⟩
  show Ending.returned (uv (bx (bx (Sh.rotr x 7) (Sh.rotr x 18)) (ofI ((x.toNat : Int) / 8)))) = _
  rw [shr_eq x 3 8 (by decide)]; rfl
set_option maxHeartbeats 400000 in
theorem smallB (x : BitVec 32) (w : World) : Calls Tryd.prog 122 #[.int .u32 (x.toNat : Int), .int .i64 17, .int .i64 19, .int .i64 10] w fun e w' => e = .returned (uv (Sh.sg2 x 17 19 10)) ∧ Drawn w w' := by
  go_enter Tryd.func122, Tryd.ntmps122
  go_wp2_with fail
  go_quiet ((first | (go_at_call 123; with_reducible exact rotq17 x _ _) | (go_at_call 123; with_reducible exact rotq19 x _ _)))
  go_wp2_with fail
  go_ret
  refine ⟨?_, ⟨_, rfl⟩⟩
  show Ending.returned (uv (bx (bx (Sh.rotr x 17) (Sh.rotr x 19)) (ofI ((x.toNat : Int) / 1024)))) = _
  rw [shr_eq x 10 1024 (by decide)]; rfl
end Go.Proofs.YtmnanbcinfdbaaaDoor
