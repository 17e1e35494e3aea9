/- The walks of roll.Window; conditions: none beyond their hypotheses. -/
import Derived.Test.YtaaajmonabhdgaaLaw06b
import Derived.Deep.RegionHeld3
import Derived.LaidEqlPtr
namespace Go.Proofs.Ytaaajmonabhdgaa
open Go.RowKit Go.Proofs.U
set_option linter.unusedVariables false

/-- what is in a window -/
def inw (bs : List UInt8) (n k : Nat) : List UInt8 := (bs.drop k).take n
/-- block g is a window over bytes -/
def Win (w : World) (g b off N c n k : Nat) (bs : List UInt8) : Prop :=
  Blk w g 52 #[.slice (some ⟨b, off, none⟩) N c, .int .i64 (n : Int), .int .i64 (k : Int), .int .u16 (md (ra (inw bs n k))), .int .u16 (md (rb (inw bs n k)))]
def WinRet (w : World) (g b off N c n k : Nat) (bs : List UInt8) (e : Ending) (w' : World) : Prop :=
  e = .returned (.bool true) ∧ Win w' g b off N c n k bs ∧ w.grownBy w' (some g)
def NewWin (w : World) (b off N c n : Nat) (bs : List UInt8) (e : Ending) (w' : World) : Prop :=
  ∃ g, e = .returned (.pointer (some ⟨g, 0, none⟩)) ∧ w.heap.size ≤ g ∧ Win w' g b off N c n 0 bs ∧ Below w.heap.size w w'
theorem Win.stay {w w' : World} {g b off N c n k : Nat} {bs : List UInt8} (h : Win w g b off N c n k bs) (hb : Below w.heap.size w w') : Win w' g b off N c n k bs := Blk.stay h hb
theorem Win.lt {w : World} {g b off N c n k : Nat} {bs : List UInt8} (h : Win w g b off N c n k bs) : g < w.heap.size := Blk.lt h
theorem cell_stay {w w' : World} {p : Addr} {v : Value} (hb : Below w.heap.size w w') (h : w.cell? p = some v) : w'.cell? p = some v := (hb.cell (World.block_lt_of_cell? w p h)).trans h

set_option maxHeartbeats 400000 in
theorem over_yes (b off N c n : Nat) (bs : List UInt8) (w : World) (hb : BS w w.heap.size (some ⟨b, off, none⟩) N bs) (hN : N ≤ 140737488355328) (hc : N ≤ c) (h1 : 1 ≤ n) (h2 : n ≤ N) :
    Calls Try.prog 16 #[.slice (some ⟨b, off, none⟩) N c, .int .i64 (n : Int)] w (NewWin w b off N c n bs) := by
  have g1 : decide ((n : Int) < 1) = false := by simp; omega
  have g2 : decide ((N : Int) < (n : Int)) = false := by simp; omega
  go_enter Try.func16, Try.ntmps16
  go_wp2_with fail
  refine (rsum_any _ _ _ (bs.take n) _ w.heap.size (hb.take h2) (Nat.le_refl _) (by unfold maxLen; omega)).mono ?_
  rintro e w1 ⟨rfl, hb1⟩
  go_wp2_with fail
  refine (hopen_any _ (rsum_bd _).1 (rsum_bd _).2 _).mono ?_
  rintro e w2 ⟨rfl, hb2⟩
  unfold hv
  have f2 := hb1.trans (hb2.mono hb1.size)
  go_wp2_with fail
  go_ret
  refine ⟨w2.heap.size, rfl, f2.size, ?_, f2.alloc f2.size _⟩
  unfold Win inw
  rw [List.drop_zero, show md (ra (bs.take n)) = md (rsum (bs.take n)) from (lo_rsum _).symm, show md (rb (bs.take n)) = md (rsum (bs.take n) / 65536) from (hi_rsum _).symm]
  exact Blk.new _ _ _
set_option maxHeartbeats 400000 in
theorem over_no (A : Option Addr) (N c : Nat) (n : Int) (w : World) (hN : N ≤ maxLen) (h : n < 1 ∨ (N : Int) < n) :
    Calls Try.prog 16 #[.slice A N c, .int .i64 n] w fun e w' => e = .returned (.pointer none) ∧ w = w' := by
  unfold maxLen at hN
  have hg : decide (n < 1) = true ∨ (decide (n < 1) = false ∧ decide ((N : Int) < n) = true) := by simp; omega
  rcases hg with g1 | ⟨g1, g2⟩
  all_goals
    go_enter Try.func16, Try.ntmps16
    go_wp2_with fail
    go_ret
    exact ⟨rfl, rfl⟩

set_option maxHeartbeats 400000 in
theorem winSum_any (g b off N c n k : Nat) (bs : List UInt8) (w : World) (hw : Win w g b off N c n k bs) :
    Calls Try.prog 19 #[.pointer (some ⟨g, 0, none⟩)] w (U32Ret w (rsum (inw bs n k))) := by
  have c3 : w.cell? ⟨g, 3, none⟩ = some (.int .u16 (md (ra (inw bs n k)))) := hw.cell 3
  have c4 : w.cell? ⟨g, 4, none⟩ = some (.int .u16 (md (rb (inw bs n k)))) := hw.cell 4
  go_enter Try.func19, Try.ntmps19
  go_wp2_with fail
  refine (hsum_any _ _ (md_lo _) (md_hi _) (md_lo _) (md_hi _) _).mono ?_
  rintro e w1 ⟨rfl, hb1⟩
  go_wp2_with fail
  go_ret
  exact ⟨rfl, hb1⟩
set_option maxHeartbeats 400000 in
theorem winAt_any (g b off N c n k : Nat) (bs : List UInt8) (w : World) (hw : Win w g b off N c n k bs) :
    Calls Try.prog 20 #[.pointer (some ⟨g, 0, none⟩)] w fun e w' => e = .returned (.int .i64 (k : Int)) ∧ w = w' := by
  have c2 : w.cell? ⟨g, 2, none⟩ = some (.int .i64 (k : Int)) := hw.cell 2
  go_enter Try.func20, Try.ntmps20
  go_wp2_with fail
  go_ret
  exact ⟨rfl, rfl⟩
set_option maxHeartbeats 400000 in
theorem winNil_sum (w : World) : Calls Try.prog 19 #[.pointer none] w fun e w' => e = .returned (.int .u32 0) ∧ w = w' := by
  go_enter Try.func19, Try.ntmps19
  go_wp2_with fail
  go_ret
  exact ⟨rfl, rfl⟩
set_option maxHeartbeats 400000 in
theorem winNil_at (w : World) : Calls Try.prog 20 #[.pointer none] w fun e w' => e = .returned (.int .i64 0) ∧ w = w' := by
  go_enter Try.func20, Try.ntmps20
  go_wp2_with fail
  go_ret
  exact ⟨rfl, rfl⟩
end Go.Proofs.Ytaaajmonabhdgaa
