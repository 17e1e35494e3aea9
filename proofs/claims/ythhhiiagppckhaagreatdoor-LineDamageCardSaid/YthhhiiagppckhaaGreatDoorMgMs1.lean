/- The walks of the small functions of msg and of the eyes: truths, ends, kinds, what a letter names; conditions: none beyond their hypotheses. -/
import Derived.Test.YthhhiiagppckhaaGreatDoorMgGa2
import Derived.Test.YthhhiiagppckhaaGreatDoorMgSl
import Derived.Test.YthhhiiagppckhaaGreatDoorMgMp
import Derived.Deep.LoopGhost
import Derived.Lib.OthersKept
import Derived.OwnWalk
set_option linter.unusedSimpArgs false
set_option linter.unusedVariables false
section
namespace Go.Proofs.YthhhiiagppckhaaGreatDoor
open Go.RowKit Go.Proofs.U
set_option linter.unusedVariables false

set_option maxHeartbeats 1000000 in
theorem etruth_any (g B0 : Nat) (b : List UInt8) (f : Nat) (hm : b.length ≤ 4611686018427387904) (w : World) (h : EyeW w 117 g B0 b f) :
    Calls Tryz.prog 61 #[.pointer (some ⟨g, 0, none⟩)] w fun e w' => e = .returned (.bool (decide ((Gr.enum 1 b f).1 = 1))) ∧ EyeW w' 117 g B0 (Gr.enum 1 b f).2.1 (Gr.enum 1 b f).2.2 ∧ w.grownBy w' (some g) := by
  have hc := enum_any g B0 b f 1 (by omega) hm w h
  obtain ⟨R, hR⟩ : ∃ R, R = Gr.enum 1 b f := ⟨_, rfl⟩
  rw [← hR] at hc ⊢
  clear hR
  obtain ⟨r, b1, f1⟩ := R
  go_enter Tryz.func61, Tryz.ntmps61
  go_wp2_with fail
  refine hc.mono ?_
  rintro e w1 ⟨rfl, he, hg⟩
  simp only at he ⊢
  go_wp2_with fail
  go_ret
  refine ⟨?_, he, hg⟩
  congr 2
  by_cases h1 : r = 1
  · subst h1; rfl
  · have : ¬ ((r : Int) = 1) := by omega
    simp [h1, this]
theorem close_zero (b : List UInt8) : Ms.close b 0 = if 0 < b.length then 12 else 0 := rfl
set_option maxHeartbeats 1000000 in
theorem eclose_any (g B0 : Nat) (b : List UInt8) (f : Nat) (w : World) (h : EyeW w 117 g B0 b f) :
    Calls Tryz.prog 39 #[.pointer (some ⟨g, 0, none⟩)] w fun e w' => e = .returned (.int .i64 (Ms.close b f : Int)) ∧ w' = w := by
  obtain ⟨R, hR⟩ : ∃ R, R = Ms.close b f := ⟨_, rfl⟩
  rw [← hR]
  have HR := Lib.hid hR
  clear hR
  by_cases hf : f = 0
  · subst hf
    by_cases hb : 0 < b.length
    · go_enter Tryz.func39, Tryz.ntmps39
      go_wp2_with fail
      refine (efault_any g B0 b 0 w h).mono ?_
      rintro e w1 ⟨rfl, rfl⟩
      go_wp2_with fail
      refine (eleft_any g B0 b 0 w h).mono ?_
      rintro e w2 ⟨rfl, rfl⟩
      go_wp2_with fail
      go_ret
      have hE := HR.out.trans (show Ms.close b 0 = 12 by rw [close_zero, if_pos hb]); subst hE
      exact ⟨rfl, rfl⟩
    · go_enter Tryz.func39, Tryz.ntmps39
      go_wp2_with fail
      refine (efault_any g B0 b 0 w h).mono ?_
      rintro e w1 ⟨rfl, rfl⟩
      go_wp2_with fail
      refine (eleft_any g B0 b 0 w h).mono ?_
      rintro e w2 ⟨rfl, rfl⟩
      go_wp2_with fail
      go_ret
      have hE := HR.out.trans (show Ms.close b 0 = 0 by rw [close_zero, if_neg hb]); subst hE
      exact ⟨rfl, rfl⟩
  · have hff : ((f : Int) == 0) = false := by rw [beq_eq_false_iff_ne]; omega
    have hff2 : ((f : Int) != 0) = true := by rw [bne_iff_ne]; omega
    go_enter Tryz.func39, Tryz.ntmps39
    go_wp2_with fail
    refine (efault_any g B0 b f w h).mono ?_
    rintro e w1 ⟨rfl, rfl⟩
    go_wp2_with fail
    refine (efault_any g B0 b f w h).mono ?_
    rintro e w2 ⟨rfl, rfl⟩
    go_wp2_with fail
    go_ret
    have hE := HR.out.trans (show Ms.close b f = f by unfold Ms.close; rw [if_pos hf]); subst hE
    exact ⟨rfl, rfl⟩

/-- where a letter's number stands, and its bound -/
def numAt (c : UInt8) : Option (Nat × Nat) := if c = 112 then some (3, 255) else if c = 119 then some (5, 2) else if c = 111 then some (9, 8300) else if c = 84 then some (10, 8300) else if c = 122 then some (11, 4096) else none
def numRet (gm : Nat) : Option (Nat × Nat) → Value
  | some (i, most) => .tuple #[.pointer (some ⟨gm, i, none⟩), .int .i64 (most : Int), .bool true]
  | none => .tuple #[.pointer none, .int .i64 0, .bool false]
def bigAt (c : UInt8) : Option Nat := if c = 115 then some 1 else if c = 110 then some 2 else if c = 118 then some 6 else if c = 97 then some 7 else if c = 116 then some 8 else none
def bigRet (gm : Nat) : Option Nat → Value
  | some i => .pointer (some ⟨gm, i, none⟩)
  | none => .pointer none
set_option maxHeartbeats 4000000 in
theorem mnum_any (gm : Nat) (c : UInt8) (hc : c ∈ Ms.alpha) (cs : Array Value) (hcs : cs.size = 16) (w : World) (h : Blk w gm 27 cs) :
    Calls Tryz.prog 47 #[.pointer (some ⟨gm, 0, none⟩), .int .i32 (c.toNat : Int)] w fun e w' => e = .returned (numRet gm (numAt c)) ∧ w' = w := by
  have hlt := h.lt
  simp only [Ms.alpha, List.mem_cons, List.not_mem_nil, or_false] at hc
  rcases hc with rfl | rfl | rfl | rfl | rfl | rfl | rfl | rfl | rfl | rfl | rfl | rfl | rfl | rfl | rfl <;>
  · simp only [UInt8.toNat_ofNat, Nat.reducePow, Nat.reduceMod]
    go_enter Tryz.func47, Tryz.ntmps47
    go_wp2_with fail
    go_ret3
    exact ⟨rfl, rfl⟩
set_option maxHeartbeats 4000000 in
theorem mbig_any (gm : Nat) (c : UInt8) (hc : c ∈ Ms.alpha) (cs : Array Value) (hcs : cs.size = 16) (w : World) (h : Blk w gm 27 cs) :
    Calls Tryz.prog 48 #[.pointer (some ⟨gm, 0, none⟩), .int .i32 (c.toNat : Int)] w fun e w' => e = .returned (bigRet gm (bigAt c)) ∧ w' = w := by
  have hlt := h.lt
  simp only [Ms.alpha, List.mem_cons, List.not_mem_nil, or_false] at hc
  rcases hc with rfl | rfl | rfl | rfl | rfl | rfl | rfl | rfl | rfl | rfl | rfl | rfl | rfl | rfl | rfl <;>
  · simp only [UInt8.toNat_ofNat, Nat.reducePow, Nat.reduceMod]
    go_enter Tryz.func48, Tryz.ntmps48
    go_wp2_with fail
    go_ret
    exact ⟨rfl, rfl⟩
set_option maxHeartbeats 4000000 in
theorem rhas_in (k : Fin 17) (w : World) : Calls Tryz.prog 13 #[.int .i64 ((k.1 : Nat) : Int)] w fun e w' => e = .returned (.string (strOf (Ms.hasN k.1))) ∧ w' = w := by
  obtain ⟨k, hk⟩ := k
  obtain rfl | rfl | rfl | rfl | rfl | rfl | rfl | rfl | rfl | rfl | rfl | rfl | rfl | rfl | rfl | rfl | rfl : k = 0 ∨ k = 1 ∨ k = 2 ∨ k = 3 ∨ k = 4 ∨ k = 5 ∨ k = 6 ∨ k = 7 ∨ k = 8 ∨ k = 9 ∨ k = 10 ∨ k = 11 ∨ k = 12 ∨ k = 13 ∨ k = 14 ∨ k = 15 ∨ k = 16 := by omega
  all_goals
    go_enter Tryz.func13, Tryz.ntmps13
    go_wp2_with fail
    go_ret
    exact ⟨rfl, rfl⟩
end Go.Proofs.YthhhiiagppckhaaGreatDoor
end
