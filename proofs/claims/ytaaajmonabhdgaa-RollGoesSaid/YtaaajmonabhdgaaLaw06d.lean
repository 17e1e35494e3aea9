/- The statement RollGoes of layer 6, its cases put together; conditions: none beyond its hypotheses. -/
import Derived.Test.YtaaajmonabhdgaaLaw06c
namespace Go.Proofs.Ytaaajmonabhdgaa
open Go.RowKit Go.Proofs.U
set_option linter.unusedVariables false

set_option maxHeartbeats 400000 in
theorem rollGoes_any (A : Option Addr) (N c : Nat) (bs : List UInt8) (x : Int) (A' : Option Addr) (m d : Nat) (zs : List Int) (w : World) (hb : BS w w.heap.size A N bs) (hz : VS w w.heap.size A' m (zs.map (Value.int .i64))) (hzb : ∀ z ∈ zs, -9223372036854775808 ≤ z ∧ z ≤ 9223372036854775807)
    (hN : N ≤ maxLen) (hc : N ≤ c) (hm : m ≤ maxLen) :
    Calls Try.prog 5 #[.slice A N c, .int .i64 x, .slice A' m d] w (Yes w) := by
  unfold maxLen at hN hm
  by_cases hl : N ≤ 600 ∧ m ≤ 300
  · by_cases hx : x < 1 ∨ (N : Int) < x
    · exact goes_none A N c x A' m d w hl.1 hl.2 hx
    · obtain ⟨n, rfl⟩ := Int.eq_ofNat_of_zero_le (show 0 ≤ x by omega)
      obtain ⟨b, off, rfl, _, _⟩ := hb.2 (by omega)
      exact goes_some b off N c n bs A' m d zs w hb hz hzb hl.1 hc hl.2 (by omega) (by omega)
  · have hg : (decide ((600 : Int) < (N : Int)) = true) ∨ (decide ((600 : Int) < (N : Int)) = false ∧ decide ((300 : Int) < (m : Int)) = true) := by
      simp only [decide_eq_true_eq, decide_eq_false_iff_not]; omega
    rcases hg with g1 | ⟨g1, g2⟩
    all_goals
      go_enter Try.func5, Try.ntmps5
      go_wp2_with fail
      refine (lives06 _).mono ?_
      rintro e w4 ⟨rfl, hb4⟩
      go_wp2_with fail
      go_ret
      exact ⟨by simp, hb4⟩
end Go.Proofs.Ytaaajmonabhdgaa
