/- What Feed does, plain; conditions: none beyond their hypotheses. -/
import Derived.Test.YtmnanbcinfdbaaaDc4
namespace Go.Proofs.Gr
set_option linter.unusedVariables false
/-- the bytes of a step over a base -/
def doesP (base : List UInt8) (s : Stp) : List UInt8 := if s.k = 1 then (base.drop s.f.toNat).take s.l.toNat else s.d
def fd (n : Int) (base : List UInt8) : Nat → List UInt8 → Nat → List UInt8 → List UInt8 × Nat × List UInt8 × Nat
  | 0, out, o, rest => (out, o, rest, 0)
  | m + 1, out, o, rest =>
    let r := nextP rest
    if r.2.2 = 11 then (out, o, rest, 0)
    else if r.2.2 ≠ 0 then (out, o, [], r.2.2)
    else if okS n r.1 = false then (out, o, [], 2)
    else if 4096 - (o : Int) < r.1.l then (out, o, [], 13)
    else fd n base m (out ++ doesP base r.1) (o + r.1.l.toNat) (rest.drop r.2.1)
section
variable {n : Int} {base out rest : List UInt8} {o m k e : Nat} {s : Stp}
theorem fd_end (h : nextP rest = (s, k, 11)) : fd n base (m + 1) out o rest = (out, o, rest, 0) := by unfold fd; simp [h]
theorem fd_bad (h : nextP rest = (s, k, e)) (h1 : e ≠ 11) (h0 : e ≠ 0) : fd n base (m + 1) out o rest = (out, o, [], e) := by unfold fd; simp [h, h1, h0]
theorem fd_wrong (h : nextP rest = (s, k, 0)) (h1 : okS n s = false) : fd n base (m + 1) out o rest = (out, o, [], 2) := by unfold fd; simp [h, h1]
theorem fd_long (h : nextP rest = (s, k, 0)) (h1 : okS n s = true) (h2 : 4096 - (o : Int) < s.l) : fd n base (m + 1) out o rest = (out, o, [], 13) := by unfold fd; simp [h, h1, h2]
theorem fd_go (h : nextP rest = (s, k, 0)) (h1 : okS n s = true) (h2 : ¬ 4096 - (o : Int) < s.l) : fd n base (m + 1) out o rest = fd n base m (out ++ doesP base s) (o + s.l.toNat) (rest.drop k) := by
  conv => lhs; unfold fd
  simp [h, h1]
  intro hc; omega
end
/-- what comes of a patch that is fed: the bytes, how many came out, what is held, the error -/
def feedP (n : Int) (base hs : List UInt8) (o f : Nat) (b : List UInt8) : List UInt8 × Nat × List UInt8 × Nat :=
  if f ≠ 0 then ([], o, hs, f) else fd n base ((hs ++ b).length + 1) [] o (hs ++ b)
theorem does_len {n : Int} {base : List UInt8} {s : Stp} (h : okS n s = true) (hn : n = base.length) (h4 : n ≤ 4096) : (doesP base s).length = s.l.toNat := by
  rcases okS_inv h h4 with ⟨f, l, rfl, hf, hl1, hl⟩ | ⟨d, rfl, hd1, hd⟩
  · unfold okS okR at h
    simp at h
    unfold doesP
    simp
    omega
  · unfold doesP; simp
end Go.Proofs.Gr
