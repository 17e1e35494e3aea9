/- The walk of PatchFeeds, both ways; conditions: none beyond its hypotheses. -/
import Derived.Test.YtmnanbcinfdbaaaPt14
namespace Go.Proofs.Ytmnanbcinfdbaaa
open Go.RowKit Go.Proofs.U
theorem patchFeeds_any (Ab A : Option Addr) (nb cb n c : Nat) (base : List UInt8) (l : List (List UInt8)) (w : World) (hb : BS w w.heap.size Ab nb base) (hcb : nb ≤ cb) (hmb : nb ≤ maxLen) (h : SS w 0 w.heap.size A n l) (hbd : ∀ bs ∈ l, bs.length ≤ 140737488355328) (hm : n ≤ maxLen) :
    Calls Try.prog 5 #[.slice Ab nb cb, .slice A n c] w (Yes w) := by
  by_cases hs : nb ≤ 5000 ∧ n ≤ 200 ∧ tot l ≤ 10000
  · exact patchFeeds_small Ab A nb cb n c base l w hb hcb h hs.2.1 hs.2.2 hs.1
  · exact patchFeeds_big Ab A nb cb n c base l w hb hcb hmb h hbd hm hs
end Go.Proofs.Ytmnanbcinfdbaaa
