/- The walks of slices.Clone, Grow and Concat at bytes; conditions: none beyond their hypotheses. -/
import Derived.Test.YtmnanbcinfdbaaaSl
import Derived.Test.YtmnanbcinfdbaaaGr12
namespace Go.Proofs.U
open Go.RowKit
set_option linter.unusedVariables false
theorem run_append_zeros_nil {P : Program} (w : World) {t u ty e : TypeId} {z : Value} {i : TypeInfo} (ht : P.underlying t = some (.slice e)) (hu : P.underlying u = some (.int .i64)) (hi : P.info? e = some i) (hz : i.zero = some z) (hs : i.size = 1) (hb : i.bytes = 1) (hz1 : z.cells.size = 1)
    (n : Nat) (h0 : 0 < n) (hn : n ≤ 140737488355328) :
    (Builtin.append_ #[t, u] ty #[.slice none 0 0, .int .i64 (n : Int)]).run P w =
      .ok (.slice (some ⟨w.heap.size, 0, none⟩) n (grownCap w n 0 e)) (w.drew.alloc (.cells (Builtin.zeroCells z.cells n ++ Builtin.zeroCells z.cells (grownCap w n 0 e - n)) e)) := by
  have hne : n ≠ 0 := by omega
  have h63' : ¬ (9223372036854775807 < (n : Int)) := by omega
  have h48' : ¬ (281474976710656 < Builtin.nextslicecap n 0) := by rw [nextslicecap_zero h0]; omega
  have h48 : ¬ (281474976710656 < (n : Int)) := by omega
  have hw : IntKind.i64.wrap (n : Int) = n := by rw [IntKind.wrap_i64]; omega
  have hneg : ¬ ((n : Int) < 0) := by omega
  simp [Builtin.append_, run_underlying ht, run_underlying hu, sizeOf, typeInfo, zeroValue, hi, hz, hs, hb, asInt, asIntOf, hw, hneg, h48, Builtin.lenOf, hne, h63', h48', Question.forced, run_firstCells_none, newRow, grownCap]
end Go.Proofs.U
namespace Go.Proofs.Ytmnanbcinfdbaaa
open Go.RowKit Go.Proofs.U
set_option linter.unusedVariables false

set_option maxHeartbeats 400000 in
theorem sclone_any (A : Option Addr) (n c : Nat) (bs : List UInt8) (w : World) (B : Nat) (hb : BS w B A n bs) (hB : B ≤ w.heap.size) (hn : n ≤ 140737488355328) :
    Calls Try.prog 59 #[.slice A n c] w (OwnRet 5 w n bs) := by
  have he := Lib.run_eql_slice_nil (P := Try.prog) w 22 5 A n c 0 0 Try.underlying22
  rcases A with _ | ad
  · have h0 : n = 0 := by
      rcases Nat.eq_zero_or_pos n with h | h
      · exact h
      · obtain ⟨_, _, e, _⟩ := hb.2 h; cases e
    subst h0
    obtain rfl : bs = [] := List.eq_nil_of_length_eq_zero hb.1
    go_enter Try.func59, Try.ntmps59
    go_wp2
    go_ret
    exact ⟨none, 0, rfl, Own.nil _ _ _, Below.refl _ _⟩
  · go_enter Try.func59, Try.ntmps59
    go_wp2_with (at_builtin; refine wpList_app bt rfl _ _ rfl w.heap.size _ _ _ [] rfl (Own.made w _ _ (Nat.le_refl _)) B _ _ _ bs rfl (hb.alloc hB _) (by omega) (by simp) ?_; intro A2 c2 w2 hown hgr hat)
    go_ret
    refine ⟨A2, c2, ?_, by simpa using hown, below_of_grown ((Below.refl _ _).alloc (Nat.le_refl _) _) (by simp) (Own.made w _ _ (Nat.le_refl _)) (Nat.le_refl _) hgr⟩
    simp

theorem info8 : (Try.prog.info? 5).map (fun i => (i.zero, i.size, i.bytes)) = some (some (.int .u8 0), 1, 1) := by kernel_rfl
set_option maxRecDepth 100000 in
set_option maxHeartbeats 1000000 in
theorem grow0_any (n : Nat) (w : World) (hn : n ≤ 1099511627776) :
    Calls Try.prog 58 #[.slice none 0 0, .int .i64 n] w (OwnRet 5 w 0 []) := by
  obtain ⟨i, hi, hz, hs, hb⟩ := info_parts info8
  rcases Nat.eq_zero_or_pos n with rfl | h0
  · go_enter Try.func58, Try.ntmps58
    go_wp2_with fail
    go_ret
    exact ⟨none, 0, rfl, Own.nil _ _ _, Below.refl _ _⟩
  · have hby : Try.t5.bytes = 1 := by kernel_rfl
    have hns : Builtin.nextslicecap n 0 = n := nextslicecap_zero h0
    have hg := grownCap_ge w n 0 5
    have hg2 := grownCap_le_maxLen w n 0 5 (by unfold maxLen; omega)
    unfold grownCap at hg hg2
    generalize hC : (Question.appendCap n 0 5).cut (w.tape w.drawn (Question.appendCap n 0 5)) = C at hg hg2
    have HC := Lib.hid (And.intro hg hg2)
    clear hg hg2
    go_enter Try.func58, Try.ntmps58
    go_wp2_with fail
    go_ret
    have hown := World.ownsRow_made (e := 5) (size := 1) w (Builtin.zeroCells #[Value.int IntKind.u8 0] n ++ Builtin.zeroCells #[Value.int IntKind.u8 0] (C - n)) C (Nat.le_refl _) HC.out.2
      (by rw [Array.size_append, size_zeroCells, size_zeroCells]; have := HC.out.1; simp; omega)
    exact ⟨_, _, rfl, Own.drew hown, ((Below.refl _ _).alloc (Nat.le_refl _) _).drew⟩

set_option maxRecDepth 100000 in
set_option maxHeartbeats 4000000 in
theorem concat_any (q : Nat) (A1 A2 : Option Addr) (n1 n2 c1 c2 B : Nat) (b1 b2 : List UInt8) (w : World) (hq : Blk w q 22 #[.slice A1 n1 c1, .slice A2 n2 c2]) (h1 : BS w B A1 n1 b1) (h2 : BS w B A2 n2 b2) (hB : B ≤ w.heap.size) (hn1 : n1 ≤ 549755813888) (hn2 : n2 ≤ 549755813888) :
    Calls Try.prog 48 #[.slice (some ⟨q, 0, none⟩) 2 2] w (OwnRet 5 w (n1 + n2) (b1 ++ b2)) := by
  have hl1 := h1.1
  have hl2 := h2.1
  have d0 := hq.cell 0
  have d1 := hq.cell 1
  simp at d0 d1
  have HH := Lib.hid (And.intro h1 (And.intro h2 (And.intro hl1 (And.intro hl2 hq))))
  clear hl1 hl2 h1 h2
  go_enter Try.func48, Try.ntmps48
  go_wp2_with fail
  go_loop [3, 11] (fun s i => (i = .int .i64 0 ∧ s = .int .i64 0) ∨ (i = .int .i64 1 ∧ s = .int .i64 (n1 : Int)) ∨ (i = .int .i64 2 ∧ s = .int .i64 ((n1 + n2 : Nat) : Int))) (fun _ i => 2 - (intOf i).toNat)
  case atStart => exact .inl ⟨rfl, rfl⟩
  case round =>
    rcases hrel with ⟨rfl, rfl⟩ | ⟨rfl, rfl⟩ | ⟨rfl, rfl⟩
    · go_wp2_with fail
      go_round
      case rel => exact .inr (.inl ⟨by go_num, by go_num⟩)
      case measure => simp [intOf]
    · go_wp2_with fail
      go_round
      case rel => exact .inr (.inr ⟨by go_num, by go_num⟩)
      case measure => simp [intOf]
    · go_wp2_with fail
      have hk := grow0_any (n1 + n2) w (by omega)
      simp only [Int.natCast_add] at hk
      refine hk.mono ?_
      rintro e w1 ⟨A3, c3, rfl, hown, hb⟩
      clear hk
      go_wp2_with fail
      go_loopg [6, 27] 2 (fun r a i wr => ∃ A n c bs, a = .slice A n c ∧ Own wr w.heap.size 5 A n c bs ∧ Below w.heap.size w wr ∧ ((r = 2 ∧ i = .int .i64 0 ∧ n = 0 ∧ bs = []) ∨ (r = 1 ∧ i = .int .i64 1 ∧ n = n1 ∧ bs = b1) ∨ (r = 0 ∧ i = .int .i64 2 ∧ n = n1 + n2 ∧ bs = b1 ++ b2)))
      case atStart => exact ⟨A3, 0, c3, [], rfl, hown, hb, .inl ⟨rfl, rfl, rfl, rfl⟩⟩
      case round =>
        clear hown hb
        obtain ⟨A, n, c, bs, rfl, hown, hbw, hcs⟩ := hrel
        obtain ⟨wo, rfl⟩ : ∃ wo : World, wo = wr := ⟨_, rfl⟩
        have e0 := (hbw.cell (p := ⟨q, 0, none⟩) HH.out.2.2.2.2.lt).trans d0
        have e1 := (hbw.cell (p := ⟨q, 1, none⟩) HH.out.2.2.2.2.lt).trans d1
        have g1 := HH.out.1.below (hbw.mono hB)
        have g2 := HH.out.2.1.below (hbw.mono hB)
        clear d0 d1
        rcases hcs with ⟨hr, rfl, rfl, rfl⟩ | ⟨hr, rfl, rfl, rfl⟩ | ⟨hr, rfl, rfl, rfl⟩
        · go_wp2_with (at_builtin; refine wpList_app bt rfl _ _ rfl w.heap.size _ _ _ [] rfl hown B _ _ _ b1 rfl g1 (by omega) (by have := hbw.size; omega) ?_; intro A2 c2 w2 hown2 hgr hat; rw [Nat.zero_add, List.nil_append] at hown2)
          go_roundg 1
          case measure => omega
          case rel => exact ⟨A2, _, c2, _, rfl, hown2, below_of_grown hbw hbw.size hown (Nat.le_refl _) hgr, .inr (.inl ⟨rfl, by go_num, rfl, rfl⟩)⟩
        · go_wp2_with (at_builtin; refine wpList_app bt rfl _ _ rfl w.heap.size _ _ _ bs rfl hown B _ _ _ b2 rfl g2 (by omega) (by have := hbw.size; omega) ?_; intro A2 c2 w2 hown2 hgr hat)
          go_roundg 0
          case measure => omega
          case rel => exact ⟨A2, _, c2, _, rfl, hown2, below_of_grown hbw hbw.size hown (Nat.le_refl _) hgr, .inr (.inr ⟨rfl, by go_num, rfl, rfl⟩)⟩
        · go_wp2_with fail
          go_ret
          exact ⟨A, c, rfl, hown, hbw⟩
end Go.Proofs.Ytmnanbcinfdbaaa
