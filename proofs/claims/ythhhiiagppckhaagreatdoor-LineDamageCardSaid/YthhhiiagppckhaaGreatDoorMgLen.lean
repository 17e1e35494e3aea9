/- The walk of math/bits.Len64; conditions: none beyond its hypotheses. -/
import Derived.Test.YthhhiiagppckhaaGreatDoorRows
import Derived.Test.YthhhiiagppckhaaGreatDoorMgSl
import Derived.WalkKit
import Derived.WalkSpells
import Derived.WalkLawsBesides
import Derived.Lib.Hide
set_option linter.unusedSimpArgs false
set_option linter.unusedVariables false
section
namespace Go.Proofs.YthhhiiagppckhaaGreatDoor
open Go.RowKit
set_option linter.unusedVariables false
theorem tab_of {d : Array UInt8} {S : ByteArray} (hS : ByteArray.mk d = S) (hn : d.size = 256) (h : ∀ v : Fin 256, d[v.1]? = some (UInt8.ofNat (Gr.bl v.1))) : (S.size : Int) = 256 ∧ ∀ v, v < 256 → S.data[v]? = some (UInt8.ofNat (Gr.bl v)) := by
  subst hS
  exact ⟨by show ((d.size : Nat) : Int) = 256; omega, fun v hv => h ⟨v, hv⟩⟩
theorem bl_256 (v : Nat) (h : v < 256) : Gr.bl v ≤ 8 := by rw [Gr.bl_le]; exact h
theorem len_fin {S : ByteArray} (hS : ∀ v, v < 256 → S.data[v]? = some (UInt8.ofNat (Gr.bl v))) (x : Int) (k : Nat) (hk : k ≤ 56) (y : Int) (h0 : 0 ≤ y) (h1 : y < 256) (hy : y.toNat = x.toNat / 2 ^ k) (hp : k = 0 ∨ 2 ^ k ≤ x.toNat) (h : y.toNat < S.size) :
    wrap64 ((k : Int) + wrap64 ((S[y.toNat]'h).toNat : Int)) = (Gr.bl x.toNat : Int) := by
  have hv := hS y.toNat (by omega)
  have he : S[y.toNat]'h = UInt8.ofNat (Gr.bl y.toNat) := by
    obtain ⟨_, e⟩ := Array.getElem?_eq_some_iff.1 hv
    exact e
  have hb := bl_256 y.toNat (by omega)
  have hx : Gr.bl x.toNat = k + Gr.bl y.toNat := by
    rcases hp with rfl | hp
    · rw [hy]; simp
    · rw [hy]; exact Gr.bl_shift _ _ hp
  rw [he, hx, UInt8.toNat_ofNat', Nat.mod_eq_of_lt (by omega)]
  unfold wrap64
  omega
set_option maxRecDepth 100000 in
set_option maxHeartbeats 4000000 in
theorem len64_int (x : Int) (h0 : 0 ≤ x) (h1 : x < 18446744073709551616) (w : World) : Calls Tryz.prog 81 #[.int .u64 x] w fun e w' => e = .returned (.int .i64 (Gr.bl x.toNat : Int)) ∧ w = w' := by
  obtain ⟨B, hB⟩ : ∃ B : Int, B = (Gr.bl x.toNat : Int) := ⟨_, rfl⟩
  rw [← hB]
  have HB := Lib.hid hB
  clear hB
  go_enter Tryz.func81, Tryz.ntmps81
  generalize hS : ByteArray.mk _ = S
  have htab := tab_of hS (by decide +kernel) (by decide +kernel)
  have HT := Lib.hid htab
  clear hS htab
  go_wp2_with fail
  all_goals first
    | (go_ret
       refine ⟨congrArg Ending.returned (congrArg (Value.int IntKind.i64) ?_), rfl⟩
       rw [HB.out]
       first
         | exact len_fin HT.out.2 x 56 (by decide) (x / 4294967296 / 65536 / 256) (by omega) (by omega) (by omega) (by right; omega) _
         | exact len_fin HT.out.2 x 48 (by decide) (x / 4294967296 / 65536) (by omega) (by omega) (by omega) (by right; omega) _
         | exact len_fin HT.out.2 x 40 (by decide) (x / 4294967296 / 256) (by omega) (by omega) (by omega) (by right; omega) _
         | exact len_fin HT.out.2 x 32 (by decide) (x / 4294967296) (by omega) (by omega) (by omega) (by right; omega) _
         | exact len_fin HT.out.2 x 24 (by decide) (x / 65536 / 256) (by omega) (by omega) (by omega) (by right; omega) _
         | exact len_fin HT.out.2 x 16 (by decide) (x / 65536) (by omega) (by omega) (by omega) (by right; omega) _
         | exact len_fin HT.out.2 x 8 (by decide) (x / 256) (by omega) (by omega) (by omega) (by right; omega) _
         | (have h8 := len_fin HT.out.2 x 0 (by decide) x h0 (by omega) (by simp) (.inl rfl) (by have := HT.out.1; omega)
            rw [← h8]
            unfold wrap64
            simp))
    | (exfalso
       have hs := HT.out.1
       omega)
theorem len64_any (n : Nat) (hn : n < 18446744073709551616) (w : World) : Calls Tryz.prog 81 #[.int .u64 (n : Int)] w fun e w' => e = .returned (.int .i64 (Gr.bl n : Int)) ∧ w = w' :=
  (len64_int (n : Int) (by omega) (by omega) w).mono fun _ _ h => by simpa using h
end Go.Proofs.YthhhiiagppckhaaGreatDoor
end
