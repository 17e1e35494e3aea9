/- The walk of cut's iterator; conditions: none beyond its hypotheses. -/
import Derived.Test.YtmnanbcinfdbaaaDoorRcap
import Derived.Test.YtmnanbcinfdbaaaDoorSl
import Derived.IntWalk
import Derived.RangeFuncBound
import Derived.RangeFuncCalls
import Derived.Shelf.Abstract
import Derived.Shelf.RegionOpen
import Derived.WalkKit
import Derived.OwnWalkIn
import Derived.TacticsInMore
import Derived.LoopNIn
import Derived.LoopIn
namespace Go.Proofs.YtmnanbcinfdbaaaDoor
open Go.RowKit Go.Proofs.U
set_option linter.unusedVariables false
attribute [local go_sem] Oper.semAt_some
def KpC (Bn B2 : Nat) (A B : World) : Prop := ∀ q, q = Bn ∨ q = B2 → B.heap[q]? = A.heap[q]?
def encC (bb bo s : Nat) (k : Nat) : Array Value := #[.int .i64 (k : Int), .slice (some ⟨bb, bo + k * s, none⟩) s s]
set_option maxRecDepth 100000 in
set_option maxHeartbeats 4000000 in
theorem cut_seq (Bn B2 : Nat) (A : Option Addr) (bb bo nb cb s : Nat) (w : World) (h1 : Blk w Bn 22 #[.slice A nb cb]) (h2 : Blk w B2 3 #[.int .i64 (s : Int)]) (hne : Bn ≠ B2) (hA : 0 < nb → A = some ⟨bb, bo, none⟩) (hc : nb ≤ cb) (hn : nb ≤ 4096) (hs : 4 ≤ s) (hs2 : s ≤ 64) :
    SeqCap Tryd.prog 104 #[.pointer (some ⟨Bn, 0, none⟩), .pointer (some ⟨B2, 0, none⟩)] Bn (nb / s) (encC bb bo s) (KpC Bn B2) w := by
  intro l m J W hJ hY h0 hK
  have hN : nb / s * s ≤ nb := Nat.div_mul_le_self nb s
  have hN2 : nb < nb / s * s + s := by have := Nat.lt_div_mul_add (a := nb) (b := s) (by omega); omega
  have hNb : nb / s ≤ nb := Nat.div_le_self nb s
  generalize nb / s = N at hY hN hN2 hNb ⊢
  have k1 : Blk W Bn 22 #[.slice A nb cb] := (hK _ (.inl rfl)).trans h1
  have k2 : Blk W B2 3 #[.int .i64 (s : Int)] := (hK _ (.inr rfl)).trans h2
  have HJ := Lib.hid (And.intro hJ (And.intro hY h0))
  clear hJ hY h0 hK h1 h2
  refine callsIn_of_wp Tryd.func104 rfl trivial ?_ rfl
  simp only [Tryd.ntmps104, List.size_toArray, List.length_cons, List.length_nil, Nat.reduceAdd, Nat.reduceSub, Array.replicate_succ, Array.replicate_zero, List.push_toArray, List.append_toArray, List.nil_append, List.cons_append]
  gi_wp2
  gi_loopw [4] (fun i wr => ∃ (k r : Nat) (Ak : Option Addr) (ck : Nat), k ≤ N ∧ i = .int .i64 (k : Int) ∧ r + k * s = nb ∧ J k wr ∧ Blk wr Bn 22 #[.slice Ak r ck] ∧ r ≤ ck ∧ (0 < r → Ak = some ⟨bb, bo + k * s, none⟩) ∧ Blk wr B2 3 #[.int .i64 (s : Int)]) (fun i _ => N - (intOf i).toNat)
  case atStart => exact ⟨0, nb, A, cb, Nat.zero_le _, rfl, by simp, HJ.out.2.2, k1, hc, by simpa using hA, k2⟩
  case round =>
    clear k1 k2
    obtain ⟨k, r, Ak, ck, hk, rfl, hr, hj, k1, hck, hAk, k2⟩ := hrel
    have c1 := k1.cell 0
    have c2 := k2.cell 0
    have f1 := k1.frozen 0
    simp at c1 c2
    by_cases hlt : k < N
    · have hks : (k + 1) * s ≤ N * s := Nat.mul_le_mul_right s (by omega)
      rw [Nat.succ_mul] at hks
      have hrs : s ≤ r := by omega
      obtain rfl := hAk (by omega)
      obtain ⟨fn, tmps, assign, body, hy, hR⟩ := HJ.out.2.1 k wr hlt hj
      unfold encC at hy
      have i1 : (s : Int) ≤ (r : Int) := by omega
      have i2 : (s : Int) ≤ (ck : Int) := by omega
      have HH := Lib.hid (And.intro k1 (And.intro k2 (And.intro hj hr)))
      clear k1 k2 hj hr hAk
      gi_wp2
      refine ⟨fun h => absurd h (by simp [Fence.wide]), (hR _).mono ?_⟩
      rintro e W3 ⟨rfl, hJ3, hK3⟩
      have k1 := (hK3 _ (.inl rfl)).trans HH.out.1
      have k2 := (hK3 _ (.inr rfl)).trans HH.out.2.1
      have c3 := Blk.cell k1 0
      have c4 := Blk.cell k2 0
      have f3 := Blk.frozen k1 0
      simp at c3 c4
      have H3 := Lib.hid (And.intro k1 (And.intro k2 hJ3))
      clear k1 k2 hJ3 hK3 hR hy c1 c2 f1
      have hr := HH.out.2.2.2
      have HR := Lib.hid hr
      clear hr
      by_cases hcs : ck = s
      · have hrr : r = s := by omega
        gi_wp2
        go_roundw
        case rel =>
          refine ⟨k + 1, 0, some ⟨bb, bo + k * s, none⟩, 0, by omega, by go_num, ?_, ?_, ?_, Nat.le_refl _, fun h => absurd h (by omega), ?_⟩
          · have := HR.out; rw [Nat.succ_mul]; omega
          · exact HJ.out.1 _ _ _ H3.out.2.2 (only_setCell (World.grownBy.refl _ _) (.inl rfl) _)
          · have := Blk.set_ H3.out.1 0 (.slice (some ⟨bb, bo + k * s, none⟩) 0 0); simpa [hrr, hcs] using this
          · exact Blk.grown H3.out.2.1 (only_setCell (World.grownBy.refl _ _) (.inl rfl) _) (by simp; exact fun e => hne e.symm)
        case measure => simp [intOf]; omega
      · gi_wp2
        go_roundw
        case rel =>
          refine ⟨k + 1, r - s, some ⟨bb, bo + k * s + s, none⟩, ck - s, by omega, by go_num, ?_, ?_, ?_, by omega, fun h => by rw [Nat.succ_mul, ← Nat.add_assoc], ?_⟩
          · have := HR.out; rw [Nat.succ_mul]; omega
          · exact HJ.out.1 _ _ _ H3.out.2.2 (only_setCell (World.grownBy.refl _ _) (.inl rfl) _)
          · have := Blk.set_ H3.out.1 0 (.slice (some ⟨bb, bo + k * s + s, none⟩) (r - s) (ck - s)); simpa using this
          · exact Blk.grown H3.out.2.1 (only_setCell (World.grownBy.refl _ _) (.inl rfl) _) (by simp; exact fun e => hne e.symm)
        case measure => simp [intOf]; omega
    · obtain rfl : k = N := by omega
      have i1 : ¬ (s : Int) ≤ (r : Int) := by omega
      have HH := Lib.hid hj
      clear hj
      gi_wp2
      go_end0
      exact ⟨⟨_, rfl⟩, HH.out⟩
end Go.Proofs.YtmnanbcinfdbaaaDoor
