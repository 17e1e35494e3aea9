/- The example of chapter 17; conditions: none beyond their hypotheses. -/
import Derived.Test.YtmnanbcinfdbaaaDoorSg6
import Derived.Test.YtmnanbcinfdbaaaDoorRra
import Derived.Test.YtmnanbcinfdbaaaDoorSh9
namespace Go.Proofs.YtmnanbcinfdbaaaDoor
open Go.RowKit Go.Proofs.U
set_option linter.unusedVariables false
theorem Tt.of {w w' : World} {Ab : Option Addr} {nb cb s : Nat} {base : List UInt8} (hb : BS w w.heap.size Ab nb base) (hcb : nb ≤ cb) (hnb : nb ≤ 4096) (hs : 4 ≤ s) (hs2 : s ≤ 64)
    (ht : Tab w' (w.heap.size + 1) w.heap.size (w.heap.size + 5) Ab nb cb base s (nb / s) (nb / s)) (hbw : Below w.heap.size w w') : Tt w' (w.heap.size + 1) w.heap.size (w.heap.size + 5) Ab nb cb base s :=
  ⟨ht, (hb.below hbw).more hbw.size, hcb, hnb, hs, hs2⟩
theorem eg_find : fnd [97, 98, 99, 100, 97, 98, 99, 100, 101, 102] 4 [97, 98, 99, 100] (grp [97, 98, 99, 100, 97, 98, 99, 100, 101, 102] 4 (rsum [97, 98, 99, 100]) 2) = some 0 := by decide
theorem eg_best : bst 17 60 = 5 := by decide
set_option maxRecDepth 100000 in
set_option maxHeartbeats 4000000 in
theorem lives17 (w : World) (hT : Tabs w) : Calls Tryd.prog 29 #[] w (Yes w) := by
  obtain ⟨base, hbase⟩ : ∃ b : List UInt8, b = [97, 98, 99, 100, 97, 98, 99, 100, 101, 102] := ⟨_, rfl⟩
  obtain ⟨part, hpart⟩ : ∃ b : List UInt8, b = [97, 98, 99, 100] := ⟨_, rfl⟩
  have hf := eg_find
  rw [← hbase, ← hpart] at hf
  have kc := fun (w : World) (C : Array Value) (n c : Nat) => Lib.run_convert_bytes_const (P := Tryd.prog) w 22 5 C n c Tryd.underlying22 Tryd.underlying5
  have HB := Lib.hid (And.intro hbase (And.intro hpart hf))
  clear hbase hpart hf
  go_enter Tryd.func29, Tryd.ntmps29
  go_wp2_with fail
  have hb0 : Below w.heap.size w (w.alloc (.cells (([97, 98, 99, 100, 97, 98, 99, 100, 101, 102] : List UInt8).map bv).toArray 5 (10, 11))) := (Below.refl _ _).alloc (Nat.le_refl _) _
  have hbs0 : BS (w.alloc (.cells (([97, 98, 99, 100, 97, 98, 99, 100, 101, 102] : List UInt8).map bv).toArray 5 (10, 11))) (w.alloc (.cells (([97, 98, 99, 100, 97, 98, 99, 100, 101, 102] : List UInt8).map bv).toArray 5 (10, 11))).heap.size (some ⟨w.heap.size, 0, none⟩) 10 base := by rw [HB.out.1]; exact BS.fresh w 5 [97, 98, 99, 100, 97, 98, 99, 100, 101, 102] (10, 11)
  refine (of_any (some ⟨w.heap.size, 0, none⟩) 10 10 4 base (w.alloc (.cells (([97, 98, 99, 100, 97, 98, 99, 100, 101, 102] : List UInt8).map bv).toArray 5 (10, 11))) hbs0 (by omega) (by omega) (by omega) (by omega) (hT.stay hb0)).mono ?_
  rintro e w1 ⟨rfl, htab, hb1⟩
  have htt := Tt.of hbs0 (by omega) (by omega) (by omega) (by omega) htab hb1
  have hbw1 := hb0.trans (hb1.mono hb0.size)
  generalize (w.alloc (.cells (([97, 98, 99, 100, 97, 98, 99, 100, 101, 102] : List UInt8).map bv).toArray 5 (10, 11))).heap.size = N at htt ⊢
  generalize (some (⟨w.heap.size, 0, none⟩ : Addr)) = Ab at htt ⊢
  clear htab hb1 hbs0 hb0
  go_wp2_with fail
  have hba : Below w1.heap.size w1 (w1.alloc (.cells (([97, 98, 99, 100] : List UInt8).map bv).toArray 5 (4, 5))) := (Below.refl _ _).alloc (Nat.le_refl _) _
  have hbsa : BS (w1.alloc (.cells (([97, 98, 99, 100] : List UInt8).map bv).toArray 5 (4, 5))) (w1.alloc (.cells (([97, 98, 99, 100] : List UInt8).map bv).toArray 5 (4, 5))).heap.size (some ⟨w1.heap.size, 0, none⟩) 4 part := by rw [HB.out.2.1]; exact BS.fresh w1 5 [97, 98, 99, 100] (4, 5)
  refine (rrsum_any (some ⟨w1.heap.size, 0, none⟩) 4 4 part (w1.alloc (.cells (([97, 98, 99, 100] : List UInt8).map bv).toArray 5 (4, 5))) _ hbsa (by omega)).mono ?_
  rintro e w2 ⟨rfl, hw2⟩
  have hb2 : Below w1.heap.size w1 w2 := by rw [← hw2]; exact hba
  clear hba hbsa hw2
  have htt2 := htt.stay hb2
  have hbw2 := hbw1.trans (hb2.mono hbw1.size)
  obtain ⟨x, hx⟩ : ∃ x, x = rsum part := ⟨_, rfl⟩
  have hxb := rsum_bd part
  rw [← hx] at hxb ⊢
  have hR : fnd base 4 part (grp base 4 x (10 / 4)) = some 0 := by rw [hx]; exact HB.out.2.2
  clear hx
  go_wp2_with fail
  have hbb : Below w2.heap.size w2 (w2.alloc (.cells (([97, 98, 99, 100] : List UInt8).map bv).toArray 5 (4, 5))) := (Below.refl _ _).alloc (Nat.le_refl _) _
  have hbsb : BS (w2.alloc (.cells (([97, 98, 99, 100] : List UInt8).map bv).toArray 5 (4, 5))) (w2.alloc (.cells (([97, 98, 99, 100] : List UInt8).map bv).toArray 5 (4, 5))).heap.size (some ⟨w2.heap.size, 0, none⟩) 4 part := by rw [HB.out.2.1]; exact BS.fresh w2 5 [97, 98, 99, 100] (4, 5)
  have hbw3 := hbw2.trans (hbb.mono hbw2.size)
  refine (find_any _ _ _ _ 10 10 base 4 (w2.alloc (.cells (([97, 98, 99, 100] : List UInt8).map bv).toArray 5 (4, 5))) (htt2.stay hbb) (hT.stay hbw3) x hxb.1 hxb.2 (some ⟨w2.heap.size, 0, none⟩) 4 4 part hbsb (by omega) (by omega)).mono ?_
  rintro e w4 ⟨rfl, hb4⟩
  rw [hR]
  have htt4 := (htt2.stay hbb).stay hb4
  have hbw4 := hbw3.trans (hb4.mono hbw3.size)
  clear hbb hbsb hbw3 hb4 hR
  go_wp2_with fail
  refine (len_any _ _ _ _ 10 10 base 4 w4 htt4).mono ?_
  rintro e w5 ⟨rfl, rfl⟩
  go_wp2_with fail
  refine (best_any 17 w4).mono ?_
  rintro e w5 ⟨rfl, rfl⟩
  rw [eg_best]
  go_wp2_with fail
  go_ret
  exact ⟨rfl, hbw4⟩
end Go.Proofs.YtmnanbcinfdbaaaDoor
