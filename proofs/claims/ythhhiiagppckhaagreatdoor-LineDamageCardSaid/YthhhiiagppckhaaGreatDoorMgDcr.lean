/- The walks of the document's sums and frames; conditions: none beyond their hypotheses. -/
import Derived.Test.YthhhiiagppckhaaGreatDoorMgDfr
set_option linter.unusedSimpArgs false
set_option linter.unusedVariables false
section
namespace Go.Proofs.YthhhiiagppckhaaGreatDoor
open Go.RowKit Go.Proofs.U
set_option linter.unusedVariables false

theorem bit_t {r : BitVec 32} (h : lsb0 r = true) : bx (bsr r 1) (ofI 2197175160) = Crc.bit r := by
  unfold lsb0 at h; rw [Crc.bit_eq, h]; rfl
theorem bit_f {r : BitVec 32} (h : lsb0 r = false) : bsr r 1 = Crc.bit r := by
  unfold lsb0 at h; rw [Crc.bit_eq, h]; simp [bsr]

set_option maxHeartbeats 400000 in
theorem rmore_any (s : BitVec 32) (A : Option Addr) (n c : Nat) (bs : List UInt8) (w : World) (B : Nat) (hb : BS w B A n bs) (hn : n ≤ maxLen) :
    Calls Tryz.prog 73 #[.int .u32 (s.toNat : Int), .slice A n c] w fun e w' => e = .returned (.int .u32 ((Crc.more s bs).toNat : Int)) ∧ w = w' := by
  unfold maxLen at hn
  go_enter Tryz.func73, Tryz.ntmps73
  go_wp2
  go_loop [5, 6] (fun t i => ∃ k : Nat, k ≤ n ∧ i = .int .i64 k ∧ t = .int .u32 ((Crc.run (nt s) (bs.take k)).toNat : Int)) (fun _ i => n - (intOf i).toNat)
  case atStart => exact ⟨0, Nat.zero_le _, rfl, rfl⟩
  case round =>
    obtain ⟨k, hk, rfl, rfl⟩ := hrel
    by_cases hlt : k < n
    · obtain ⟨b, off, c, rfl, hbB, hx, hc⟩ := hb.at_ hlt
      go_wp2
      go_loop [5, 7] (fun t i => ∃ j : Nat, j ≤ 8 ∧ i = .int .i64 j ∧ t = .int .u32 ((Crc.bits j (bx (Crc.run (nt s) (bs.take k)) (ofI ((c.toNat : Int) % 4294967296)))).toNat : Int)) (fun _ i => 8 - (intOf i).toNat)
      case atStart => exact ⟨0, Nat.zero_le _, rfl, rfl⟩
      case round =>
        obtain ⟨j, hj, rfl, rfl⟩ := hrel
        by_cases hlt' : j < 8
        · cases hbit : lsb0 (Crc.bits j (bx (Crc.run (nt s) (bs.take k)) (ofI ((c.toNat : Int) % 4294967296))))
          all_goals
            go_wp2
            go_round
            case rel => exact ⟨j + 1, by omega, by go_num, int_u32 (by rw [Crc.bits_succ]; first | exact bit_f hbit | exact bit_t hbit)⟩
            case measure => simp [intOf]; omega
        · have e8 : j = 8 := by omega
          subst e8
          go_wp2
          go_round
          case rel => exact ⟨k + 1, by omega, by go_num, int_u32 (by rw [run_snoc hx, ofI_byte]; rfl)⟩
          case measure => simp [intOf]; omega
    · go_wp2
      go_ret
      refine ⟨congrArg Ending.returned (int_u32 ?_), rfl⟩
      rw [List.take_of_length_le (by have := hb.1; omega)]
      exact more_eq _ _

set_option maxHeartbeats 400000 in
theorem rsum_any (A : Option Addr) (n c : Nat) (bs : List UInt8) (w : World) (B : Nat) (hb : BS w B A n bs) (hn : n ≤ maxLen) :
    Calls Tryz.prog 54 #[.slice A n c] w fun e w' => e = .returned (.int .u32 ((Crc.more 0#32 bs).toNat : Int)) ∧ w = w' := by
  go_enter Tryz.func54, Tryz.ntmps54
  go_wp2_with (go_at_call 73; refine (rmore_any 0#32 _ _ _ bs _ B hb hn).mono ?_; rintro e w' ⟨rfl, rfl⟩)
  go_ret
  exact ⟨rfl, rfl⟩

set_option maxHeartbeats 400000 in
theorem rseal_any (A : Option Addr) (n c : Nat) (bs : List UInt8) (w : World) (hb : BS w w.heap.size A n bs) (hn : n ≤ 140737488355300) :
    Calls Tryz.prog 30 #[.slice A n c] w (OwnRet 5 w (n + 4) (sealed bs)) := by
  have hm : n ≤ maxLen := by unfold maxLen; omega
  go_enter Tryz.func30, Tryz.ntmps30
  go_wp2_with (first
    | (go_at_call 54; refine (rsum_any _ _ _ bs _ _ hb hm).mono ?_; rintro e w' ⟨rfl, rfl⟩)
    | (at_builtin; refine wpList_app bt rfl (.tmp 7) (.tmp 8) rfl w.heap.size _ _ _ [] rfl (Own.made w _ _ (Nat.le_refl _)) _ _ _ _ bs rfl (hb.alloc (Nat.le_refl _) _) (by omega) (by simp) ?_; intro A1 c1 w1 hown1 hg1 _; have hb1 : Below w.heap.size w w1 := below_of_grown ((Below.refl _ _).alloc (Nat.le_refl _) _) (by simp) (Own.made w _ _ (Nat.le_refl _)) (Nat.le_refl _) hg1; simp only [Nat.zero_add, List.nil_append] at hown1)
    | (at_builtin; refine wpList_app bt rfl (.tmp 10) (.tmp 25) rfl w.heap.size _ _ _ bs rfl (hown1.alloc _) (w1.heap.size + 1) _ 4 _ (tail (Crc.more 0#32 bs)) rfl (BS.new w1 5 (tail (Crc.more 0#32 bs))) (by omega) (by have := hb1.size; simp; omega) ?_; intro A2 c2 w2 hown2 hg2 _))
  go_ret
  exact ⟨A2, c2, by simp, hown2, below_of_grown (hb1.alloc hb1.size _) (by have := hb1.size; simp; omega) (hown1.alloc _) (Nat.le_refl _) hg2⟩
set_option maxHeartbeats 1000000 in
theorem rwrap_any (A : Option Addr) (n c : Nat) (bs : List UInt8) (w : World) (hb : BS w w.heap.size A n bs) (hn : n ≤ 140737488355300) :
    Calls Tryz.prog 17 #[.slice A n c] w (OwnCode 5 w (fwrap bs)) := by
  have hl := hb.1
  by_cases hbig : 1400 < n
  · rw [fwrap_no bs (by omega)]
    go_enter Tryz.func17, Tryz.ntmps17
    go_wp2_with fail
    go_ret2
    exact ⟨none, 0, rfl, Own.nil _ _ _, Below.refl _ _⟩
  · rw [fwrap_ok bs (by omega), hl]
    obtain ⟨x, y, htwo, hh, hlo⟩ : ∃ x y, two n = [x, y] ∧ (n : Int) / 256 = (x.toNat : Int) ∧ (n : Int) % 256 = (y.toNat : Int) := ⟨_, _, rfl, byte_hi' n (by omega), byte_lo n⟩
    rw [htwo]
    clear htwo
    go_enter Tryz.func17, Tryz.ntmps17
    go_wp2_with fail
    have hb0 : Below w.heap.size w (w.alloc (.cells (([x, y] : List UInt8).map bv).toArray 5)) := (Below.refl _ _).alloc (Nat.le_refl _) _
    refine (rseal_any _ _ _ [x, y] (w.alloc (.cells (([x, y] : List UInt8).map bv).toArray 5)) (BS.fresh w 5 [x, y]) (by simp)).mono ?_
    rintro e w1 ⟨A1, c1, rfl, hown1, hb1⟩
    have hb01 := hb0.trans (hb1.mono hb0.size)
    go_wp2_with fail
    refine (rseal_any _ _ _ bs _ ((hb.below hb01).more hb01.size) (by omega)).mono ?_
    rintro e w2 ⟨A2, c2, rfl, hown2, hb2⟩
    have hb02 := hb01.trans (hb2.mono hb01.size)
    have hown1' := (hown1.below hb2).mono (hb0.size)
    go_wp2_with (at_builtin; refine wpList_app bt rfl _ _ rfl w.heap.size _ _ _ (sealed [x, y]) rfl hown1' _ _ _ _ (sealed bs) rfl hown2.bs (by omega) hb02.size ?_; intro A3 c3 w3 hown3 hg3 _)
    go_ret2
    have hlen : (sealed [x, y] ++ sealed bs).length = 2 + 4 + (n + 4) := by simp [sealed_len, hl]
    refine ⟨A3, c3, by simp [hlen], ?_, below_of_grown hb02 hb02.size hown1' (Nat.le_refl _) hg3⟩
    rw [hlen]; exact hown3

/-! the reference's Take and Need -/
end Go.Proofs.YthhhiiagppckhaaGreatDoor
end
