/- The walks of the statements RollSums and RollParts of layer 6; conditions: none beyond their hypotheses. -/
import Derived.Test.YtaaajmonabhdgaaRr
import Derived.BigQuiet
import Derived.Deep.QuietTactic
namespace Go.Proofs.Ytaaajmonabhdgaa
open Go.RowKit Go.Proofs.U
set_option linter.unusedVariables false

theorem rbt : Bt Try.prog 22 5 := ⟨Try.underlying22, by kernel_rfl⟩
def Yes (w : World) (e : Ending) (w' : World) : Prop := e = .returned (.bool true) ∧ Below w.heap.size w w'
theorem rsum_three : rsum [1, 2, 3] = 655366 := by decide
theorem rsum_none : rsum [] = 0 := by decide

set_option maxHeartbeats 400000 in
theorem lives06 (w : World) : Calls Try.prog 6 #[] w (Yes w) := by
  have k1 := rsum_three
  have k2 := rsum_none
  have hb0 : Below w.heap.size w (w.alloc (.cells (([1, 2, 3] : List UInt8).map bv).toArray 5)) := (Below.refl _ _).alloc (Nat.le_refl _) _
  go_enter Try.func6, Try.ntmps6
  go_wp2_with fail
  refine (rsum_any _ 3 3 [1, 2, 3] (w.alloc (.cells (([1, 2, 3] : List UInt8).map bv).toArray 5)) (w.heap.size + 1) (BS.new w 5 [1, 2, 3]) (by simp) (by decide)).mono ?_
  rintro e w1 ⟨rfl, hb1⟩
  go_wp2_with fail
  refine (rsum_any _ 0 0 [] _ 0 (BS.nil _ _ _) (by omega) (by decide)).mono ?_
  rintro e w2 ⟨rfl, hb2⟩
  go_wp2_with fail
  go_ret
  have hb3 := hb0.trans (hb1.mono hb0.size)
  exact ⟨by simp, hb3.trans (hb2.mono hb3.size)⟩

theorem rsum_bd (bs : List UInt8) : 0 ≤ rsum bs ∧ rsum bs < 4294967296 := by unfold rsum md; omega

set_option maxHeartbeats 400000 in
theorem rollSums_any (A : Option Addr) (n c : Nat) (bs : List UInt8) (s t k : Int) (x y : UInt8) (w : World) (hb : BS w w.heap.size A n bs) (hn : n ≤ maxLen) (s0 : 0 ≤ s) (s1 : s < 4294967296) (t0 : 0 ≤ t) (t1 : t < 4294967296)
    (k0 : -9223372036854775808 ≤ k) (k1 : k ≤ 9223372036854775807) :
    Calls Try.prog 4 #[.slice A n c, .agg #[.int .u32 s, .int .u32 t, .int .i64 k, .int .u8 (x.toNat : Int), .int .u8 (y.toNat : Int)]] w (Yes w) := by
  have hm := hn
  unfold maxLen at hm
  have hbw : Below w.heap.size w (w.alloc (.cells #[.int .u32 s, .int .u32 t, .int .i64 k, .int .u8 (x.toNat : Int), .int .u8 (y.toNat : Int)] 31)) := (Below.refl _ _).alloc (Nat.le_refl _) _
  by_cases hl : n ≤ 2000
  · go_enter Try.func4, Try.ntmps4
    go_wp2_with fail
    go_quiet (fail)
    go_wp2_with fail
    refine (rsum_any _ _ _ bs _ w.heap.size ((hb.below hbw).drewN _) hbw.size hn).mono ?_
    rintro e w1 ⟨rfl, hb1⟩
    have g1 := (below_drewN hbw _).trans (hb1.mono hbw.size)
    go_wp2_with fail
    refine (rrsum_any _ _ _ bs _ w.heap.size (hb.below g1) (by omega)).mono ?_
    rintro e w' ⟨rfl, rfl⟩
    go_wp2_with fail
    refine (push_any s s0 s1 _ _).mono ?_
    rintro e w2 ⟨rfl, hb2⟩
    have g2 := g1.trans (hb2.mono g1.size)
    go_wp2_with fail
    refine (rpush_any s s0 s1 _ _).mono ?_
    rintro e w' ⟨rfl, rfl⟩
    go_wp2_with fail
    refine (pop_any s s0 s1 _ _ _).mono ?_
    rintro e w3 ⟨rfl, hb3⟩
    have g3 := g2.trans (hb3.mono g2.size)
    go_wp2_with fail
    refine (rpop_any s s0 s1 k k0 k1 _ _).mono ?_
    rintro e w' ⟨rfl, rfl⟩
    go_wp2_with fail
    refine (roll_any s s0 s1 _ _ _ _).mono ?_
    rintro e w4 ⟨rfl, hb4⟩
    have g4 := g3.trans (hb4.mono g3.size)
    go_wp2_with fail
    refine (rpop_any s s0 s1 k k0 k1 _ _).mono ?_
    rintro e w' ⟨rfl, rfl⟩
    go_wp2_with fail
    refine (rpush_any (popS s k x) (join_bd _ _).1 (join_bd _ _).2 _ _).mono ?_
    rintro e w' ⟨rfl, rfl⟩
    go_wp2_with fail
    refine (join_any s s0 s1 t t0 t1 _ _).mono ?_
    rintro e w5 ⟨rfl, hb5⟩
    have g5 := g4.trans (hb5.mono g4.size)
    go_wp2_with fail
    refine (rjoin_any s s0 s1 t t0 t1 k k0 k1 _).mono ?_
    rintro e w' ⟨rfl, rfl⟩
    go_wp2_with fail
    refine (lives06 _).mono ?_
    rintro e w6 ⟨rfl, hb6⟩
    go_wp2_with fail
    go_ret
    exact ⟨by simp, g5.trans (hb6.mono g5.size)⟩
  · go_enter Try.func4, Try.ntmps4
    go_wp2_with fail
    go_quiet (fail)
    go_wp2_with fail
    refine (lives06 _).mono ?_
    rintro e w6 ⟨rfl, hb6⟩
    go_wp2_with fail
    go_ret
    exact ⟨by simp, (below_drewN hbw _).trans (hb6.mono hbw.size)⟩
end Go.Proofs.Ytaaajmonabhdgaa
