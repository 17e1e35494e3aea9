/- Small facts on letters and strings; conditions: none beyond their hypotheses. -/
import Derived.Test.YthhhiiagppckhaaDoorMs6
namespace Go.Proofs.YthhhiiagppckhaaDoor
open Go.RowKit Go.Proofs.U
set_option linter.unusedVariables false

theorem nodup_take {l : List UInt8} {k : Nat} {c : UInt8} (hn : l.Nodup) (h : l[k]? = some c) : c ∉ l.take k := by
  have hk : k < l.length := (List.getElem?_eq_some_iff.1 h).1
  have e : l = l.take k ++ l.drop k := (List.take_append_drop k l).symm
  rw [e, List.nodup_append] at hn
  intro hc
  have hd : c ∈ l.drop k := by
    have : (l.drop k)[0]? = some c := by rw [List.getElem?_drop]; simpa using h
    exact List.mem_of_getElem? this
  exact hn.2.2 c hc c hd rfl
theorem not_take {l : List UInt8} {k : Nat} {c : UInt8} (h : c ∉ l.take (k + 1)) : c ∉ l.take k := fun hc => h (by rw [List.take_add_one]; exact List.mem_append_left _ hc)
theorem in_take {l : List UInt8} {k : Nat} {c : UInt8} (h : l[k]? = some c) : c ∈ l.take (k + 1) := by rw [List.take_add_one, h]; simp
theorem idx_at {w : World} {l : List UInt8} {k : Nat} {c : UInt8} (h : l[k]? = some c) : (Instr.index 9 (.string (strOf l)) (.int .i64 (k : Int))).run Tryd.prog w = .ok (.int .u8 (c.toNat : Int)) w := by
  have hk : k < (strOf l).size := by rw [str_size]; exact (List.getElem?_eq_some_iff.1 h).1
  rw [run_index_string _ _ _ _ _ Tryd.underlying9, dif_pos (by omega)]
  have e := str_at l k c h hk
  simp only [Int.toNat_natCast, e]
theorem Calls.of_eq {P : Program} {f : Nat} {args : Array Value} {w w' : World} {Q : Ending → World → Prop} (h : w = w') (hc : Calls P f args w Q) : Calls P f args w' Q := h ▸ hc
theorem hasN_short (k : Nat) : (Ms.hasN k).length ≤ 10 := by
  by_cases h : 16 < k
  · rw [Ms.hasN_big k h]; simp
  · have : ∀ k : Fin 17, (Ms.hasN k.1).length ≤ 10 := by decide
    exact this ⟨k, by omega⟩
theorem str_old {w : World} {B0 : Nat} {A : Option Addr} {d : List UInt8} (h : BS w B0 A d.length d) (hB : B0 ≤ w.heap.size) (c : Nat) : (convert 24 9 (.slice A d.length c)).run Tryd.prog w = .ok (.string (strOf d)) w :=
  str_of (Dat.old h hB) c
end Go.Proofs.YthhhiiagppckhaaDoor
