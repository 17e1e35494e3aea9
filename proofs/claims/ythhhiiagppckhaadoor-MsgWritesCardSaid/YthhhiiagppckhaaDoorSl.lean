/- The walks of the small functions on slices of bytes: bytes.Clone, Same. -/
import Derived.Test.YthhhiiagppckhaaDoorRows
import Derived.Test.YthhhiiagppckhaaDoorU
import Derived.WalkSpells
import Derived.WalkLawsBesides
namespace Go.Proofs.YthhhiiagppckhaaDoor
open Go.RowKit Go.Proofs.U
set_option linter.unusedVariables false
theorem bt : Bt Tryd.prog 24 5 := ⟨Tryd.underlying24, by kernel_rfl⟩

set_option maxHeartbeats 400000 in
theorem clone_any (A : Option Addr) (n c : Nat) (bs : List UInt8) (w : World) (B : Nat) (hb : BS w B A n bs) (hB : B ≤ w.heap.size) (hn : n ≤ 140737488355328) :
    Calls Tryd.prog 86 #[.slice A n c] w (OwnRet 5 w n bs) := by
  have he := Lib.run_eql_slice_nil (P := Tryd.prog) w 24 5 A n c 0 0 Tryd.underlying24
  rcases A with _ | ad
  · have h0 : n = 0 := by
      rcases Nat.eq_zero_or_pos n with h | h
      · exact h
      · obtain ⟨_, _, e, _⟩ := hb.2 h; cases e
    subst h0
    obtain rfl : bs = [] := List.eq_nil_of_length_eq_zero hb.1
    go_enter Tryd.func86, Tryd.ntmps86
    go_wp2
    go_ret
    exact ⟨none, 0, rfl, Own.nil _ _ _, Below.refl _ _⟩
  · go_enter Tryd.func86, Tryd.ntmps86
    go_wp2_with (at_builtin; refine wpList_app bt rfl _ _ rfl w.heap.size _ _ _ [] rfl (Own.made w _ _ (Nat.le_refl _)) B _ _ _ bs rfl (hb.alloc hB _) (by omega) (by simp) ?_; intro A2 c2 w2 hown hgr hat)
    go_ret
    refine ⟨A2, c2, ?_, by simpa using hown, below_of_grown ((Below.refl _ _).alloc (Nat.le_refl _) _) (by simp) (Own.made w _ _ (Nat.le_refl _)) (Nat.le_refl _) hgr⟩
    simp

set_option maxHeartbeats 400000 in
theorem same_any (A : Option Addr) (n c : Nat) (bs : List UInt8) (A' : Option Addr) (m d : Nat) (bs' : List UInt8) (w : World) (B B' : Nat) (hb : BS w B A n bs) (hb' : BS w B' A' m bs') :
    Calls Tryd.prog 14 #[.slice A n c, .slice A' m d] w fun e w' => e = .returned (.bool (bs == bs')) ∧ w = w' := by
  have h1 := run_str hb 24 5 9 Tryd.underlying24 Tryd.underlying5 Tryd.underlying9 c
  have h2 := run_str hb' 24 5 9 Tryd.underlying24 Tryd.underlying5 Tryd.underlying9 d
  go_enter Tryd.func14, Tryd.ntmps14
  go_wp2
  go_ret
  exact ⟨rfl, rfl⟩
end Go.Proofs.YthhhiiagppckhaaDoor
