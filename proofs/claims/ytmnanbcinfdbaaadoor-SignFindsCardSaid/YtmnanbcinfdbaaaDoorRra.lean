/- The walk of the reference's weak sum; conditions: none beyond its hypotheses. -/
import Derived.Test.YtmnanbcinfdbaaaDoorRla
namespace Go.Proofs.YtmnanbcinfdbaaaDoor
open Go.RowKit Go.Proofs.U
set_option linter.unusedVariables false
theorem tm_eq (x : Int) : x.tmod 65536 = if 0 ≤ x then x % 65536 else -((-x) % 65536) := by
  split
  · exact Int.tmod_eq_emod_of_nonneg ‹_›
  · conv => lhs; rw [← Int.neg_neg x]
    rw [Int.neg_tmod, Int.tmod_eq_emod_of_nonneg (by omega)]
/-- the sums of the reference's loop behind k bytes of n -/
theorem ra_bd (l : List UInt8) : 0 ≤ ra l ∧ ra l ≤ 255 * l.length := by
  induction l with
  | nil => simp [ra]
  | cons c l ih => have := c.toNat_lt; rw [ra_cons, List.length_cons]; push_cast; omega
theorem rb_bd (l : List UInt8) (N : Nat) (h : l.length ≤ N) : 0 ≤ rb l ∧ rb l ≤ 255 * N * l.length := by
  induction l with
  | nil => simp [rb]
  | cons c l ih =>
    have hc := c.toNat_lt
    simp only [List.length_cons] at h
    have ih := ih (by omega)
    simp only [rb, List.length_cons]
    have h1 : 0 ≤ ((l.length + 1 : Nat) : Int) * (c.toNat : Int) := Int.mul_nonneg (by omega) (by omega)
    have h2 : ((l.length + 1 : Nat) : Int) * (c.toNat : Int) ≤ (N : Int) * 255 := Int.mul_le_mul (by omega) (by omega) (by omega) (by omega)
    have h3 : (255 * (N : Int) * ((l.length + 1 : Nat) : Int)) = 255 * (N : Int) * (l.length : Int) + 255 * N := by push_cast; rw [Int.mul_add]; omega
    rw [h3]; omega

set_option maxHeartbeats 400000 in
theorem rrsum_any (A : Option Addr) (n c : Nat) (bs : List UInt8) (w : World) (B : Nat) (hb : BS w B A n bs) (hn : n ≤ 65536) :
    Calls Tryd.prog 33 #[.slice A n c] w fun e w' => e = .returned (.int .u32 (rsum bs)) ∧ w = w' := by
  go_enter Tryd.func33, Tryd.ntmps33
  go_wp2_with fail
  go_loop [3, 4, 5] (fun x y i => ∃ k : Nat, ∃ X Y : Int, k ≤ n ∧ i = .int .i64 k ∧ x = .int .i64 X ∧ y = .int .i64 Y ∧ 0 ≤ X ∧ X ≤ 16777216 ∧ 0 ≤ Y ∧ Y ≤ 2199023255552 ∧ Hid (X = ra (bs.take k) ∧ Y = rb (bs.take k) + ((n : Int) - k) * ra (bs.take k))) (fun _ _ i => n - (intOf i).toNat)
  case atStart => exact ⟨0, 0, 0, Nat.zero_le _, rfl, rfl, rfl, by omega, by omega, by omega, by omega, ⟨by simp [ra], by simp [ra, rb]⟩⟩
  case round =>
    obtain ⟨k, X, Y, hk, rfl, rfl, rfl, x0, x1, y0, y1, hH⟩ := hrel
    by_cases hlt : k < n
    · obtain ⟨b, off, z, rfl, hbB, hx, hc⟩ := hb.at_ hlt
      have hz := z.toNat_lt
      have p1 : 0 ≤ ((n : Int) - k) * (z.toNat : Int) := Int.mul_nonneg (by omega) (by omega)
      have p2 : ((n : Int) - k) * (z.toNat : Int) ≤ 65536 * 256 := Int.mul_le_mul (by omega) (by omega) (by omega) (by omega)
      have Hx := Lib.hid hx
      clear hx
      go_wp2_with fail
      have ht := take_snoc Hx.out
      obtain ⟨hX, hY⟩ := hH
      have hl : (bs.take (k + 1)).length ≤ n := by have := hb.1; simp; omega
      have q1 := ra_bd (bs.take (k + 1))
      have q2 := rb_bd (bs.take (k + 1)) n hl
      have hlk : (bs.take (k + 1)).length = k + 1 := by have := hb.1; simp; omega
      have eX : X + (z.toNat : Int) = ra (bs.take (k + 1)) := by rw [ht, ra_snoc, hX]
      have eY : Y + ((n : Int) - k) * (z.toNat : Int) = rb (bs.take (k + 1)) + ((n : Int) - (k + 1 : Nat)) * ra (bs.take (k + 1)) := by
        rw [ht, rb_snoc, ra_snoc, hY, show ((n : Int) - (k + 1 : Nat)) = ((n : Int) - k) - 1 by omega]; generalize (n : Int) - k = N; rw [Int.sub_mul, Int.mul_add, Int.one_mul]; omega
      rw [hlk] at q1 q2
      have q3 : 255 * (n : Int) * ((k + 1 : Nat) : Int) ≤ 255 * 65536 * 65536 := Int.mul_le_mul (by omega) (by omega) (by omega) (by omega)
      have q4 : ((n : Int) - (k + 1 : Nat)) * ra (bs.take (k + 1)) ≤ 65536 * 16711680 := Int.mul_le_mul (by omega) (by omega) (by omega) (by omega)
      go_round
      case rel =>
        exact ⟨k + 1, _, _, by omega, by go_num, rfl, rfl, by omega, by omega, by omega, by omega, ⟨eX, eY⟩⟩
      case measure => simp [intOf]; omega
    · have hkn : k = n := by omega
      subst hkn
      obtain ⟨hX, hY⟩ := hH
      rw [List.take_of_length_le (by have := hb.1; omega), Int.sub_self, Int.zero_mul, Int.add_zero] at hY
      rw [List.take_of_length_le (by have := hb.1; omega)] at hX
      have HX := Lib.hid hX
      have HY := Lib.hid hY
      clear hX hY
      go_wp2_with fail
      go_ret
      refine ⟨congrArg (fun x => Ending.returned (Value.int .u32 x)) ?_, rfl⟩
      unfold rsum
      rw [← HX.out, ← HY.out]
      unfold md; omega
end Go.Proofs.YtmnanbcinfdbaaaDoor
