/- ShaNobody: its walk; conditions: none beyond its hypotheses. -/
import Derived.Test.YtmnanbcinfdbaaaDoorRt6
import Derived.Test.YtmnanbcinfdbaaaDoorSh7n
import Derived.Test.YtmnanbcinfdbaaaDoorLaw05
namespace Go.Proofs.YtmnanbcinfdbaaaDoor
open Go.RowKit Go.Proofs.U
set_option linter.unusedVariables false

set_option maxRecDepth 100000 in
set_option maxHeartbeats 4000000 in
theorem shaNobody_any (A : Option Addr) (n c : Nat) (bs : List UInt8) (w : World) (hT : Tabs w) :
    Calls Tryd.prog 5 #[.slice A n c] w (Yes w) := by
  obtain ⟨L, hLL⟩ : ∃ L : List UInt8, L = [] := ⟨_, rfl⟩
  obtain ⟨DD, hDD⟩ : ∃ DD, DD = ((Sh.dig L).map bv).toArray := ⟨_, rfl⟩
  have heq : ∀ w', (Op.equalIn 10000 25 (.agg DD) (.agg DD)).run Tryd.prog w' = .ok true w' := fun w' => by rw [hDD]; exact dig_eq _ w'
  have HL := Lib.hid (And.intro hLL hDD)
  clear hLL hDD
  go_enter Tryd.func5, Tryd.ntmps5
  go_wp2_with fail
  refine (writeNil_any _ w).mono ?_
  rintro e w' ⟨rfl, rfl⟩
  go_wp2_with fail
  refine (shaLenNil_any w).mono ?_
  rintro e w' ⟨rfl, rfl⟩
  go_wp2_with fail
  refine (shaCloneNil_any w).mono ?_
  rintro e w' ⟨rfl, rfl⟩
  go_wp2_with fail
  refine (sumNil_any w hT).mono ?_
  rintro e w1 ⟨rfl, hb1⟩
  go_wp2_with fail
  refine (sumP_any none 0 0 [] w1 (BS.nil _ _ _) (Nat.le_refl _) (by decide) (hT.stay hb1)).mono ?_
  rintro e w2 ⟨rfl, hb2⟩
  have hbw2 := hb1.trans (hb2.mono hb1.size)
  rw [← HL.out.1, ← HL.out.2]
  go_wp2_with fail
  refine (right05_any w2).mono ?_
  rintro e w3 ⟨rfl, hb3⟩
  have hbw3 := hbw2.trans (hb3.mono hbw2.size)
  go_wp2_with fail
  refine (lives05 w3 (hT.stay hbw3)).mono ?_
  rintro e w4 ⟨rfl, hb4⟩
  go_wp2_with fail
  go_ret
  exact ⟨rfl, hbw3.trans (hb4.mono hbw3.size)⟩
end Go.Proofs.YtmnanbcinfdbaaaDoor
