/- What Find finds, plain; conditions: none. -/
import Derived.Test.YtmnanbcinfdbaaaDoorLaw17
namespace Go.Proofs.YtmnanbcinfdbaaaDoor
open Go.RowKit Go.Proofs.U
set_option linter.unusedVariables false
/-- the first block that has the bytes -/
def fst17 (base : List UInt8) (s : Nat) (bs : List UInt8) (n : Nat) : Option Nat := (List.range n).find? fun i => blkB base s i == bs
theorem fnd_eq (base : List UInt8) (s : Nat) (bs : List UInt8) : ∀ n, fnd base s bs (grp base s (rsum bs) n) = (fst17 base s bs n).map (fun i : Nat => (i : Int))
  | 0 => rfl
  | k + 1 => by
    have ih := fnd_eq base s bs k
    unfold fnd fst17 at ih ⊢
    rw [List.range_succ, List.find?_append]
    unfold grp
    by_cases hw : wk base s k = rsum bs
    · rw [if_pos hw, List.find?_append, ih]
      cases h1 : (List.range k).find? (fun i => blkB base s i == bs) with
      | some i => simp
      | none =>
        cases h2 : (blkB base s k == bs) <;> simp [List.find?_cons, h2]
    · rw [if_neg hw, ih]
      have h2 : (blkB base s k == bs) = false := by
        rcases h : (blkB base s k == bs) with _ | _
        · rfl
        · rw [beq_iff_eq] at h
          exact absurd (by rw [← h]; rfl) hw
      cases h1 : (List.range k).find? (fun i => blkB base s i == bs) <;> simp [List.find?_cons, h2]
theorem fnd_ne (base : List UInt8) (s : Nat) (bs : List UInt8) (x : Int) (hx : x ≠ rsum bs) (n : Nat) : fnd base s bs (grp base s x n) = none := by
  unfold fnd
  rw [List.find?_eq_none]
  intro z hz
  obtain ⟨i, rfl, _, hi⟩ := grp_mem base s x z n hz
  intro h
  simp only [beq_iff_eq, Int.toNat_natCast] at h
  exact hx (by rw [← hi, ← h]; rfl)
end Go.Proofs.YtmnanbcinfdbaaaDoor
