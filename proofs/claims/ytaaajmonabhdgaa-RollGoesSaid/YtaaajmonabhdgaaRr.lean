/- The walks of the reference of roll; conditions: none beyond their hypotheses. -/
import Derived.Test.YtaaajmonabhdgaaRl
namespace Go.Proofs.Ytaaajmonabhdgaa
open Go.RowKit Go.Proofs.U
set_option linter.unusedVariables false

theorem tm_eq (x : Int) : x.tmod 65536 = if 0 ≤ x then x % 65536 else -((-x) % 65536) := by
  split
  · exact Int.tmod_eq_emod_of_nonneg ‹_›
  · conv => lhs; rw [← Int.neg_neg x]
    rw [Int.neg_tmod, Int.tmod_eq_emod_of_nonneg (by omega)]
theorem short_eq (x : Int) : (wrap64 (x.tmod 65536 + 65536)).tmod 65536 = md x := by
  have h : 0 ≤ x.tmod 65536 + 65536 ∧ x.tmod 65536 + 65536 < 131072 := by rw [tm_eq]; split <;> omega
  have hw : wrap64 (x.tmod 65536 + 65536) = x.tmod 65536 + 65536 := by unfold wrap64; omega
  rw [hw, Int.tmod_eq_emod_of_nonneg h.1]
  rw [tm_eq] at h ⊢
  unfold md
  split <;> omega

set_option maxHeartbeats 400000 in
theorem rparts_any (s : Int) (h0 : 0 ≤ s) (hs : s < 4294967296) (w : World) :
    Calls Try.prog 25 #[.int .u32 s] w fun e w' => e = .returned (.tuple #[.int .i64 (lo s), .int .i64 (hi s)]) ∧ w = w' := by
  have e1 : s % 65536 = lo s := by unfold lo md; omega
  have e2 : s / 65536 = hi s := by unfold hi md; omega
  go_enter Try.func25, Try.ntmps25
  go_wp2_with fail
  go_ret2
  exact ⟨rfl, rfl⟩
set_option maxHeartbeats 400000 in
theorem rshort_any (x : Int) (h0 : -9223372036854775808 ≤ x) (hs : x ≤ 9223372036854775807) (w : World) :
    Calls Try.prog 27 #[.int .i64 x] w fun e w' => e = .returned (.int .i64 (md x)) ∧ w = w' := by
  go_enter Try.func27, Try.ntmps27
  go_wp2_with fail
  go_ret
  exact ⟨congrArg (fun x => Ending.returned (Value.int .i64 x)) (short_eq x), rfl⟩
set_option maxHeartbeats 400000 in
theorem rwhole_any (a b : Int) (a0 : -9223372036854775808 ≤ a) (a1 : a ≤ 9223372036854775807) (b0 : -9223372036854775808 ≤ b) (b1 : b ≤ 9223372036854775807) (w : World) :
    Calls Try.prog 26 #[.int .i64 a, .int .i64 b] w fun e w' => e = .returned (.int .u32 (join a b)) ∧ w = w' := by
  go_enter Try.func26, Try.ntmps26
  go_wp2_with fail
  go_ret
  refine ⟨congrArg (fun x => Ending.returned (Value.int .u32 x)) ?_, rfl⟩
  rw [short_eq, short_eq]
  unfold join md; omega

theorem lo_bd (s : Int) : 0 ≤ lo s ∧ lo s < 65536 := by unfold lo md; omega
theorem hi_bd (s : Int) : 0 ≤ hi s ∧ hi s < 65536 := by unfold hi md; omega
section
variable (s : Int) (h0 : 0 ≤ s) (hs : s < 4294967296)
set_option maxHeartbeats 400000 in
include h0 hs in
theorem rpush_any (c : UInt8) (w : World) : Calls Try.prog 12 #[.int .u32 s, .int .u8 (c.toNat : Int)] w fun e w' => e = .returned (.int .u32 (pushS s c)) ∧ w = w' := by
  have hc := c.toNat_lt
  obtain ⟨b1, b2⟩ := lo_bd s
  obtain ⟨b3, b4⟩ := hi_bd s
  go_enter Try.func12, Try.ntmps12
  go_wp2_with fail
  refine (rparts_any s h0 hs _).mono ?_
  rintro e w' ⟨rfl, rfl⟩
  go_wp2_with fail
  refine (rwhole_any _ _ (by omega) (by omega) (by omega) (by omega) _).mono ?_
  rintro e w' ⟨rfl, rfl⟩
  go_wp2_with fail
  go_ret
  exact ⟨rfl, rfl⟩
set_option maxHeartbeats 400000 in
include h0 hs in
theorem rpop_any (n : Int) (n0 : -9223372036854775808 ≤ n) (n1 : n ≤ 9223372036854775807) (c : UInt8) (w : World) : Calls Try.prog 13 #[.int .u32 s, .int .i64 n, .int .u8 (c.toNat : Int)] w fun e w' => e = .returned (.int .u32 (popS s n c)) ∧ w = w' := by
  have hc := c.toNat_lt
  obtain ⟨b1, b2⟩ := lo_bd s
  obtain ⟨b3, b4⟩ := hi_bd s
  have p1 : 0 ≤ md n * (c.toNat : Int) := Int.mul_nonneg (md_lo n) (by omega)
  have p2 : md n * (c.toNat : Int) ≤ 65536 * 256 := Int.mul_le_mul (by have := md_hi n; omega) (by omega) (by omega) (by omega)
  go_enter Try.func13, Try.ntmps13
  go_wp2_with fail
  refine (rparts_any s h0 hs _).mono ?_
  rintro e w' ⟨rfl, rfl⟩
  go_wp2_with fail
  refine (rshort_any n n0 n1 _).mono ?_
  rintro e w' ⟨rfl, rfl⟩
  go_wp2_with fail
  refine (rwhole_any _ _ (by omega) (by omega) (by omega) (by omega) _).mono ?_
  rintro e w' ⟨rfl, rfl⟩
  go_wp2_with fail
  go_ret
  refine ⟨congrArg (fun x => Ending.returned (Value.int .u32 x)) ?_, rfl⟩
  unfold popS join
  rw [← md_sub (hi s) (md n * _), md_mul, md_sub]
set_option maxHeartbeats 400000 in
include h0 hs in
theorem rjoin_any (t : Int) (t0 : 0 ≤ t) (ht : t < 4294967296) (n : Int) (n0 : -9223372036854775808 ≤ n) (n1 : n ≤ 9223372036854775807) (w : World) : Calls Try.prog 15 #[.int .u32 s, .int .u32 t, .int .i64 n] w fun e w' => e = .returned (.int .u32 (joinS s t n)) ∧ w = w' := by
  obtain ⟨b1, b2⟩ := lo_bd s
  obtain ⟨b3, b4⟩ := hi_bd s
  obtain ⟨b5, b6⟩ := lo_bd t
  obtain ⟨b7, b8⟩ := hi_bd t
  have p1 : 0 ≤ md n * lo s := Int.mul_nonneg (md_lo n) (by omega)
  have p2 : md n * lo s ≤ 65536 * 65536 := Int.mul_le_mul (by have := md_hi n; omega) (by omega) (by omega) (by omega)
  go_enter Try.func15, Try.ntmps15
  go_wp2_with fail
  refine (rparts_any s h0 hs _).mono ?_
  rintro e w' ⟨rfl, rfl⟩
  go_wp2_with fail
  refine (rparts_any t t0 ht _).mono ?_
  rintro e w' ⟨rfl, rfl⟩
  go_wp2_with fail
  refine (rshort_any n n0 n1 _).mono ?_
  rintro e w' ⟨rfl, rfl⟩
  go_wp2_with fail
  refine (rwhole_any _ _ (by omega) (by omega) (by omega) (by omega) _).mono ?_
  rintro e w' ⟨rfl, rfl⟩
  go_wp2_with fail
  go_ret
  refine ⟨congrArg (fun x => Ending.returned (Value.int .u32 x)) ?_, rfl⟩
  unfold joinS join
  rw [← md_add _ (md n * _), md_mul, md_add]
end

/-- the sums of the reference's loop behind k bytes of n -/
theorem ra_bd (l : List UInt8) : 0 ≤ ra l ∧ ra l ≤ 255 * l.length := by
  induction l with
  | nil => simp [ra]
  | cons c l ih => have := c.toNat_lt; rw [ra_cons, List.length_cons]; push_cast; omega
theorem rb_bd (l : List UInt8) (N : Nat) (h : l.length ≤ N) : 0 ≤ rb l ∧ rb l ≤ 255 * N * l.length := by
  induction l with
  | nil => simp [rb]
  | cons c l ih =>
    have hc := c.toNat_lt
    simp only [List.length_cons] at h
    have ih := ih (by omega)
    simp only [rb, List.length_cons]
    have h1 : 0 ≤ ((l.length + 1 : Nat) : Int) * (c.toNat : Int) := Int.mul_nonneg (by omega) (by omega)
    have h2 : ((l.length + 1 : Nat) : Int) * (c.toNat : Int) ≤ (N : Int) * 255 := Int.mul_le_mul (by omega) (by omega) (by omega) (by omega)
    have h3 : (255 * (N : Int) * ((l.length + 1 : Nat) : Int)) = 255 * (N : Int) * (l.length : Int) + 255 * N := by push_cast; rw [Int.mul_add]; omega
    rw [h3]; omega

set_option maxHeartbeats 400000 in
theorem rrsum_any (A : Option Addr) (n c : Nat) (bs : List UInt8) (w : World) (B : Nat) (hb : BS w B A n bs) (hn : n ≤ 65536) :
    Calls Try.prog 9 #[.slice A n c] w fun e w' => e = .returned (.int .u32 (rsum bs)) ∧ w = w' := by
  go_enter Try.func9, Try.ntmps9
  go_wp2_with fail
  go_loop [3, 4, 5] (fun x y i => ∃ k : Nat, ∃ X Y : Int, k ≤ n ∧ i = .int .i64 k ∧ x = .int .i64 X ∧ y = .int .i64 Y ∧ 0 ≤ X ∧ X ≤ 16777216 ∧ 0 ≤ Y ∧ Y ≤ 2199023255552 ∧ Hid (X = ra (bs.take k) ∧ Y = rb (bs.take k) + ((n : Int) - k) * ra (bs.take k))) (fun _ _ i => n - (intOf i).toNat)
  case atStart => exact ⟨0, 0, 0, Nat.zero_le _, rfl, rfl, rfl, by omega, by omega, by omega, by omega, ⟨by simp [ra], by simp [ra, rb]⟩⟩
  case round =>
    obtain ⟨k, X, Y, hk, rfl, rfl, rfl, x0, x1, y0, y1, hH⟩ := hrel
    by_cases hlt : k < n
    · obtain ⟨b, off, z, rfl, hbB, hx, hc⟩ := hb.at_ hlt
      have hz := z.toNat_lt
      have p1 : 0 ≤ ((n : Int) - k) * (z.toNat : Int) := Int.mul_nonneg (by omega) (by omega)
      have p2 : ((n : Int) - k) * (z.toNat : Int) ≤ 65536 * 256 := Int.mul_le_mul (by omega) (by omega) (by omega) (by omega)
      have Hx := Lib.hid hx
      clear hx
      go_wp2_with fail
      have ht := take_snoc Hx.out
      obtain ⟨hX, hY⟩ := hH
      have hl : (bs.take (k + 1)).length ≤ n := by have := hb.1; simp; omega
      have q1 := ra_bd (bs.take (k + 1))
      have q2 := rb_bd (bs.take (k + 1)) n hl
      have hlk : (bs.take (k + 1)).length = k + 1 := by have := hb.1; simp; omega
      have eX : X + (z.toNat : Int) = ra (bs.take (k + 1)) := by rw [ht, ra_snoc, hX]
      have eY : Y + ((n : Int) - k) * (z.toNat : Int) = rb (bs.take (k + 1)) + ((n : Int) - (k + 1 : Nat)) * ra (bs.take (k + 1)) := by
        rw [ht, rb_snoc, ra_snoc, hY, show ((n : Int) - (k + 1 : Nat)) = ((n : Int) - k) - 1 by omega]; generalize (n : Int) - k = N; rw [Int.sub_mul, Int.mul_add, Int.one_mul]; omega
      rw [hlk] at q1 q2
      have q3 : 255 * (n : Int) * ((k + 1 : Nat) : Int) ≤ 255 * 65536 * 65536 := Int.mul_le_mul (by omega) (by omega) (by omega) (by omega)
      have q4 : ((n : Int) - (k + 1 : Nat)) * ra (bs.take (k + 1)) ≤ 65536 * 16711680 := Int.mul_le_mul (by omega) (by omega) (by omega) (by omega)
      go_round
      case rel =>
        exact ⟨k + 1, _, _, by omega, by go_num, rfl, rfl, by omega, by omega, by omega, by omega, ⟨eX, eY⟩⟩
      case measure => simp [intOf]; omega
    · have hkn : k = n := by omega
      subst hkn
      obtain ⟨hX, hY⟩ := hH
      rw [List.take_of_length_le (by have := hb.1; omega), Int.sub_self, Int.zero_mul, Int.add_zero] at hY
      rw [List.take_of_length_le (by have := hb.1; omega)] at hX
      have HX := Lib.hid hX
      have HY := Lib.hid hY
      clear hX hY
      go_wp2_with fail
      go_ret
      refine ⟨congrArg (fun x => Ending.returned (Value.int .u32 x)) ?_, rfl⟩
      unfold rsum
      rw [← HX.out, ← HY.out]
      unfold md; omega
end Go.Proofs.Ytaaajmonabhdgaa
