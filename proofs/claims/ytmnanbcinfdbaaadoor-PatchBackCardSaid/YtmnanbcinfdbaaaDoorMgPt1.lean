/- The walks of slices.Clone, Grow and Concat at bytes; conditions: none beyond their hypotheses. The walks of a patch's small methods; conditions: none beyond their hypotheses. The walks of a patch's End, does, and keep; conditions: none beyond their hypotheses. The walk of a patch's Feed: at none; conditions: none beyond its hypotheses. -/
import Derived.Test.YtmnanbcinfdbaaaDoorMgSl
import Derived.Test.YtmnanbcinfdbaaaDoorMgGr12
import Derived.Test.YtmnanbcinfdbaaaDoorMgEs1
import Derived.Defers
import Derived.WalkMore
set_option linter.unusedSimpArgs false
set_option linter.unusedVariables false
section
namespace Go.Proofs.U
open Go.RowKit
set_option linter.unusedVariables false
theorem run_append_zeros_nil {P : Program} (w : World) {t u ty e : TypeId} {z : Value} {i : TypeInfo} (ht : P.underlying t = some (.slice e)) (hu : P.underlying u = some (.int .i64)) (hi : P.info? e = some i) (hz : i.zero = some z) (hs : i.size = 1) (hb : i.bytes = 1) (hz1 : z.cells.size = 1)
    (n : Nat) (h0 : 0 < n) (hn : n ≤ 140737488355328) :
    (Builtin.append_ #[t, u] ty #[.slice none 0 0, .int .i64 (n : Int)]).run P w =
      .ok (.slice (some ⟨w.heap.size, 0, none⟩) n (grownCap w n 0 e)) (w.drew.alloc (.cells (Builtin.zeroCells z.cells n ++ Builtin.zeroCells z.cells (grownCap w n 0 e - n)) e)) := by
  have hne : n ≠ 0 := by omega
  have h63' : ¬ (9223372036854775807 < (n : Int)) := by omega
  have h48' : ¬ (281474976710656 < Builtin.nextslicecap n 0) := by rw [nextslicecap_zero h0]; omega
  have h48 : ¬ (281474976710656 < (n : Int)) := by omega
  have hw : IntKind.i64.wrap (n : Int) = n := by rw [IntKind.wrap_i64]; omega
  have hneg : ¬ ((n : Int) < 0) := by omega
  simp [Builtin.append_, run_underlying ht, run_underlying hu, sizeOf, typeInfo, zeroValue, hi, hz, hs, hb, asInt, asIntOf, hw, hneg, h48, Builtin.lenOf, hne, h63', h48', Question.forced, run_firstCells_none, newRow, grownCap]
end Go.Proofs.U
namespace Go.Proofs.YtmnanbcinfdbaaaDoor
open Go.RowKit Go.Proofs.U
set_option linter.unusedVariables false

set_option maxHeartbeats 400000 in
theorem sclone_any (A : Option Addr) (n c : Nat) (bs : List UInt8) (w : World) (B : Nat) (hb : BS w B A n bs) (hB : B ≤ w.heap.size) (hn : n ≤ 140737488355328) :
    Calls Tryd.prog 114 #[.slice A n c] w (OwnRet 5 w n bs) := by
  have he := Lib.run_eql_slice_nil (P := Tryd.prog) w 22 5 A n c 0 0 Tryd.underlying22
  rcases A with _ | ad
  · have h0 : n = 0 := by
      rcases Nat.eq_zero_or_pos n with h | h
      · exact h
      · obtain ⟨_, _, e, _⟩ := hb.2 h; cases e
    subst h0
    obtain rfl : bs = [] := List.eq_nil_of_length_eq_zero hb.1
    go_enter Tryd.func114, Tryd.ntmps114
    go_wp2
    go_ret
    exact ⟨none, 0, rfl, Own.nil _ _ _, Below.refl _ _⟩
  · go_enter Tryd.func114, Tryd.ntmps114
    go_wp2_with (at_builtin; refine wpList_app bt rfl _ _ rfl w.heap.size _ _ _ [] rfl (Own.made w _ _ (Nat.le_refl _)) B _ _ _ bs rfl (hb.alloc hB _) (by omega) (by simp) ?_; intro A2 c2 w2 hown hgr hat)
    go_ret
    refine ⟨A2, c2, ?_, by simpa using hown, below_of_grown ((Below.refl _ _).alloc (Nat.le_refl _) _) (by simp) (Own.made w _ _ (Nat.le_refl _)) (Nat.le_refl _) hgr⟩
    simp

theorem info8 : (Tryd.prog.info? 5).map (fun i => (i.zero, i.size, i.bytes)) = some (some (.int .u8 0), 1, 1) := by kernel_rfl
set_option maxRecDepth 100000 in
set_option maxHeartbeats 1000000 in
theorem grow0_any (n : Nat) (w : World) (hn : n ≤ 1099511627776) :
    Calls Tryd.prog 113 #[.slice none 0 0, .int .i64 n] w (OwnRet 5 w 0 []) := by
  obtain ⟨i, hi, hz, hs, hb⟩ := info_parts info8
  rcases Nat.eq_zero_or_pos n with rfl | h0
  · go_enter Tryd.func113, Tryd.ntmps113
    go_wp2_with fail
    go_ret
    exact ⟨none, 0, rfl, Own.nil _ _ _, Below.refl _ _⟩
  · have hby : Tryd.t5.bytes = 1 := by kernel_rfl
    have hns : Builtin.nextslicecap n 0 = n := nextslicecap_zero h0
    have hg := grownCap_ge w n 0 5
    have hg2 := grownCap_le_maxLen w n 0 5 (by unfold maxLen; omega)
    unfold grownCap at hg hg2
    generalize hC : (Question.appendCap n 0 5).cut (w.tape w.drawn (Question.appendCap n 0 5)) = C at hg hg2
    have HC := Lib.hid (And.intro hg hg2)
    clear hg hg2
    go_enter Tryd.func113, Tryd.ntmps113
    go_wp2_with fail
    go_ret
    have hown := World.ownsRow_made (e := 5) (size := 1) w (Builtin.zeroCells #[Value.int IntKind.u8 0] n ++ Builtin.zeroCells #[Value.int IntKind.u8 0] (C - n)) C (Nat.le_refl _) HC.out.2
      (by rw [Array.size_append, size_zeroCells, size_zeroCells]; have := HC.out.1; simp; omega)
    exact ⟨_, _, rfl, Own.drew hown, ((Below.refl _ _).alloc (Nat.le_refl _) _).drew⟩

set_option maxRecDepth 100000 in
set_option maxHeartbeats 4000000 in
theorem concat_any (q : Nat) (A1 A2 : Option Addr) (n1 n2 c1 c2 B : Nat) (b1 b2 : List UInt8) (w : World) (hq : Blk w q 22 #[.slice A1 n1 c1, .slice A2 n2 c2]) (h1 : BS w B A1 n1 b1) (h2 : BS w B A2 n2 b2) (hB : B ≤ w.heap.size) (hn1 : n1 ≤ 549755813888) (hn2 : n2 ≤ 549755813888) :
    Calls Tryd.prog 93 #[.slice (some ⟨q, 0, none⟩) 2 2] w (OwnRet 5 w (n1 + n2) (b1 ++ b2)) := by
  have hl1 := h1.1
  have hl2 := h2.1
  have d0 := hq.cell 0
  have d1 := hq.cell 1
  simp at d0 d1
  have HH := Lib.hid (And.intro h1 (And.intro h2 (And.intro hl1 (And.intro hl2 hq))))
  clear hl1 hl2 h1 h2
  go_enter Tryd.func93, Tryd.ntmps93
  go_wp2_with fail
  go_loop [3, 11] (fun s i => (i = .int .i64 0 ∧ s = .int .i64 0) ∨ (i = .int .i64 1 ∧ s = .int .i64 (n1 : Int)) ∨ (i = .int .i64 2 ∧ s = .int .i64 ((n1 + n2 : Nat) : Int))) (fun _ i => 2 - (intOf i).toNat)
  case atStart => exact .inl ⟨rfl, rfl⟩
  case round =>
    rcases hrel with ⟨rfl, rfl⟩ | ⟨rfl, rfl⟩ | ⟨rfl, rfl⟩
    · go_wp2_with fail
      go_round
      case rel => exact .inr (.inl ⟨by go_num, by go_num⟩)
      case measure => simp [intOf]
    · go_wp2_with fail
      go_round
      case rel => exact .inr (.inr ⟨by go_num, by go_num⟩)
      case measure => simp [intOf]
    · go_wp2_with fail
      have hk := grow0_any (n1 + n2) w (by omega)
      simp only [Int.natCast_add] at hk
      refine hk.mono ?_
      rintro e w1 ⟨A3, c3, rfl, hown, hb⟩
      clear hk
      go_wp2_with fail
      go_loopg [6, 27] 2 (fun r a i wr => ∃ A n c bs, a = .slice A n c ∧ Own wr w.heap.size 5 A n c bs ∧ Below w.heap.size w wr ∧ ((r = 2 ∧ i = .int .i64 0 ∧ n = 0 ∧ bs = []) ∨ (r = 1 ∧ i = .int .i64 1 ∧ n = n1 ∧ bs = b1) ∨ (r = 0 ∧ i = .int .i64 2 ∧ n = n1 + n2 ∧ bs = b1 ++ b2)))
      case atStart => exact ⟨A3, 0, c3, [], rfl, hown, hb, .inl ⟨rfl, rfl, rfl, rfl⟩⟩
      case round =>
        clear hown hb
        obtain ⟨A, n, c, bs, rfl, hown, hbw, hcs⟩ := hrel
        obtain ⟨wo, rfl⟩ : ∃ wo : World, wo = wr := ⟨_, rfl⟩
        have e0 := (hbw.cell (p := ⟨q, 0, none⟩) HH.out.2.2.2.2.lt).trans d0
        have e1 := (hbw.cell (p := ⟨q, 1, none⟩) HH.out.2.2.2.2.lt).trans d1
        have g1 := HH.out.1.below (hbw.mono hB)
        have g2 := HH.out.2.1.below (hbw.mono hB)
        clear d0 d1
        rcases hcs with ⟨hr, rfl, rfl, rfl⟩ | ⟨hr, rfl, rfl, rfl⟩ | ⟨hr, rfl, rfl, rfl⟩
        · go_wp2_with (at_builtin; refine wpList_app bt rfl _ _ rfl w.heap.size _ _ _ [] rfl hown B _ _ _ b1 rfl g1 (by omega) (by have := hbw.size; omega) ?_; intro A2 c2 w2 hown2 hgr hat; rw [Nat.zero_add, List.nil_append] at hown2)
          go_roundg 1
          case measure => omega
          case rel => exact ⟨A2, _, c2, _, rfl, hown2, below_of_grown hbw hbw.size hown (Nat.le_refl _) hgr, .inr (.inl ⟨rfl, by go_num, rfl, rfl⟩)⟩
        · go_wp2_with (at_builtin; refine wpList_app bt rfl _ _ rfl w.heap.size _ _ _ bs rfl hown B _ _ _ b2 rfl g2 (by omega) (by have := hbw.size; omega) ?_; intro A2 c2 w2 hown2 hgr hat)
          go_roundg 0
          case measure => omega
          case rel => exact ⟨A2, _, c2, _, rfl, hown2, below_of_grown hbw hbw.size hown (Nat.le_refl _) hgr, .inr (.inr ⟨rfl, by go_num, rfl, rfl⟩)⟩
        · go_wp2_with fail
          go_ret
          exact ⟨A, c, rfl, hown, hbw⟩
end Go.Proofs.YtmnanbcinfdbaaaDoor
end

section
namespace Go.Proofs.YtmnanbcinfdbaaaDoor
open Go.RowKit Go.Proofs.U
set_option linter.unusedVariables false

/-- a patch's cells -/
def ptC (Ab : Option Addr) (nb cb : Nat) (Ah : Option Addr) (nh ch : Nat) (out e : Int) : Array Value := #[.slice Ab nb cb, .slice Ah nh ch, .int .i64 out, .int .i64 e]
set_option maxHeartbeats 400000 in
theorem fault_nil (w : World) : Calls Tryd.prog 92 #[.pointer none] w fun e w' => e = .returned (.int .i64 1) ∧ w = w' := by
  go_enter Tryd.func92, Tryd.ntmps92
  go_wp2
  go_ret
  exact ⟨rfl, rfl⟩
set_option maxHeartbeats 400000 in
theorem out_nil (w : World) : Calls Tryd.prog 63 #[.pointer none] w fun e w' => e = .returned (.int .i64 0) ∧ w = w' := by
  go_enter Tryd.func63, Tryd.ntmps63
  go_wp2
  go_ret
  exact ⟨rfl, rfl⟩
set_option maxHeartbeats 400000 in
theorem held_nil (w : World) : Calls Tryd.prog 97 #[.pointer none] w fun e w' => e = .returned (.int .i64 0) ∧ w = w' := by
  go_enter Tryd.func97, Tryd.ntmps97
  go_wp2
  go_ret
  exact ⟨rfl, rfl⟩
section
variable {w : World} {g : Nat} {Ab Ah : Option Addr} {nb cb nh ch : Nat} {o f : Int}
set_option maxHeartbeats 400000 in
theorem fault_any (h : Blk w g 122 (ptC Ab nb cb Ah nh ch o f)) : Calls Tryd.prog 92 #[.pointer (some ⟨g, 0, none⟩)] w fun e w' => e = .returned (.int .i64 f) ∧ Drawn w w' := by
  have c3 := h.cell 3
  simp [ptC] at c3
  go_enter Tryd.func92, Tryd.ntmps92
  go_wp2
  go_ret
  exact ⟨rfl, Drawn.refl _⟩
set_option maxHeartbeats 400000 in
theorem out_any (h : Blk w g 122 (ptC Ab nb cb Ah nh ch o f)) : Calls Tryd.prog 63 #[.pointer (some ⟨g, 0, none⟩)] w fun e w' => e = .returned (.int .i64 o) ∧ Drawn w w' := by
  have c3 := h.cell 2
  simp [ptC] at c3
  go_enter Tryd.func63, Tryd.ntmps63
  go_wp2
  go_ret
  exact ⟨rfl, Drawn.refl _⟩
set_option maxHeartbeats 400000 in
theorem held_any (h : Blk w g 122 (ptC Ab nb cb Ah nh ch o f)) : Calls Tryd.prog 97 #[.pointer (some ⟨g, 0, none⟩)] w fun e w' => e = .returned (.int .i64 (nh : Int)) ∧ Drawn w w' := by
  have c3 := h.cell 1
  simp [ptC] at c3
  go_enter Tryd.func97, Tryd.ntmps97
  go_wp2
  go_ret
  exact ⟨rfl, Drawn.refl _⟩
end
set_option maxHeartbeats 400000 in
theorem new_any (A : Option Addr) (n c : Nat) (w : World) (hn : n ≤ 4096) : Calls Tryd.prog 59 #[.slice A n c] w fun e w' => e = .returned (.pointer (some ⟨w.heap.size, 0, none⟩)) ∧ w' = w.alloc (.cells (ptC A n c none 0 0 0 0) 122) := by
  go_enter Tryd.func59, Tryd.ntmps59
  go_wp2_with fail
  go_ret
  exact ⟨rfl, rfl⟩
set_option maxHeartbeats 400000 in
theorem new_long (A : Option Addr) (n c : Nat) (w : World) (hn : 4096 < n) : Calls Tryd.prog 59 #[.slice A n c] w fun e w' => e = .returned (.pointer none) ∧ w' = w := by
  go_enter Tryd.func59, Tryd.ntmps59
  go_wp2_with fail
  go_ret
  exact ⟨rfl, rfl⟩
end Go.Proofs.YtmnanbcinfdbaaaDoor
end

section
namespace Go.Proofs.YtmnanbcinfdbaaaDoor
open Go.RowKit Go.Proofs.U
set_option linter.unusedVariables false

set_option maxHeartbeats 400000 in
theorem end_nil (w : World) : Calls Tryd.prog 62 #[.pointer none] w fun e w' => e = .returned (.int .i64 1) ∧ Drawn w w' := by
  go_enter Tryd.func62, Tryd.ntmps62
  go_wp2_with fail
  refine (fault_nil _).mono ?_
  rintro e w1 ⟨rfl, rfl⟩
  go_wp2_with fail
  refine (fault_nil _).mono ?_
  rintro e w1 ⟨rfl, rfl⟩
  go_wp2_with fail
  go_ret
  exact ⟨rfl, Drawn.refl _⟩
/-- does: the bytes of a right step -/
theorem does_lit (A D : Option Addr) (n c m cd : Nat) (k f l : Int) (hk : k ≠ 1) (w : World) :
    Calls Tryd.prog 96 #[.slice A n c, .agg #[.int .i64 k, .int .i64 f, .int .i64 l, .slice D m cd]] w fun e w' => e = .returned (.slice D m cd) ∧ Below w.heap.size w w' := by
  have e1 : (k == 1) = false := by rw [beq_eq_false_iff_ne]; omega
  have hb1 : ∀ o, Below w.heap.size w (w.alloc o) := fun o => (Below.refl _ _).alloc (Nat.le_refl _) _
  go_enter Tryd.func96, Tryd.ntmps96
  go_wp2_with fail
  go_ret
  exact ⟨rfl, hb1 _⟩
theorem does_copy (b off n c m cd f l : Nat) (D : Option Addr) (hf : f + l ≤ n) (hl : 1 ≤ l) (hc : n ≤ c) (hn : n ≤ 4096) (w : World) :
    Calls Tryd.prog 96 #[.slice (some ⟨b, off, none⟩) n c, .agg #[.int .i64 1, .int .i64 (f : Int), .int .i64 (l : Int), .slice D m cd]] w fun e w' => e = .returned (.slice (some ⟨b, off + f, none⟩) l (c - f)) ∧ Below w.heap.size w w' := by
  have hb1 : ∀ o, Below w.heap.size w (w.alloc o) := fun o => (Below.refl _ _).alloc (Nat.le_refl _) _
  have hcf : ¬ c = f := by omega
  go_enter Tryd.func96, Tryd.ntmps96
  go_wp2_with fail
  go_ret
  refine ⟨?_, hb1 _⟩
  show Ending.returned (.slice (some ⟨b, off + f, none⟩) (f + l - f) (c - f)) = _
  rw [Nat.add_sub_cancel_left]
/-- keep, as a deferred call -/
theorem keep_d (g r : Nat) (Ab Ah A : Option Addr) (nb cb nh ch n c : Nat) (o f : Int) (bs : List UInt8) (u : FrameMode) (w : World) (B : Nat)
    (h : Blk w g 122 (ptC Ab nb cb Ah nh ch o f)) (hr : Blk w r 22 #[.slice A n c]) (hb : BS w B A n bs) (hB : B ≤ w.heap.size) (hn : n ≤ 140737488355328) :
    CallsD Tryd.prog 94 #[.pointer (some ⟨g, 0, none⟩), .pointer (some ⟨r, 0, none⟩)] u w fun e u' w' => u' = u ∧ e = .returned (.tuple #[]) ∧
      ∃ A' c', (f = 0 ∧ Blk w' g 122 (ptC Ab nb cb A' n c' o f) ∧ Own w' w.heap.size 5 A' n c' bs ∨ f ≠ 0 ∧ Blk w' g 122 (ptC Ab nb cb none 0 0 o f)) ∧ w.grownBy w' (some g) := by
  have c1 := h.cell 1
  have c3 := h.cell 3
  have d0 := hr.cell 0
  simp [ptC] at c1 c3 d0
  by_cases hf : f = 0
  · subst hf
    go_enter_d Tryd.func94, Tryd.ntmps94
    go_wp2_with fail
    refine (sclone_any A n c bs w B hb hB hn).mono ?_
    rintro e w1 ⟨A', c', rfl, hown, hb1⟩
    have h1 := h.stay hb1
    have k1 := h1.cell 1
    have k3 := h1.cell 3
    have fz := h1.frozen 1
    simp [ptC] at k1 k3
    go_wp2_with fail
    go_end0
    have hg := fun V => only_setCell (World.grownBy.refl w1 (some g)) (p := ⟨g, 1, none⟩) (.inl rfl) V
    refine ⟨rfl, A', c', .inl ⟨trivial, ?_, World.ownsRow.kept hown (hg _) ?_⟩, only_setCell (only_below (World.grownBy.refl w (some g)) hb1) (.inl rfl) _⟩
    · have := h1.set_ 1 (.slice A' n c')
      simpa [ptC] using this
    · rcases hw : (Value.slice A' n c').ownBlock with _ | k
      · exact .inl rfl
      · refine .inr ?_
        have := (World.ownsRow.lt hown k hw).1
        have := h.lt
        simp; omega
  · have e1 : (f != 0) = true := by rw [bne_iff_ne]; exact hf
    go_enter_d Tryd.func94, Tryd.ntmps94
    go_wp2_with fail
    refine (sclone_any A n c bs w B hb hB hn).mono ?_
    rintro e w1 ⟨A', c', rfl, hown, hb1⟩
    have h1 := h.stay hb1
    have k1 := h1.cell 1
    have k3 := h1.cell 3
    have fz := h1.frozen 1
    simp [ptC] at k1 k3
    have h2 := h1.set_ 1 (.slice A' n c')
    have j1 := h2.cell 1
    have j3 := h2.cell 3
    have fz2 := h2.frozen 1
    simp [ptC] at j1 j3
    have HH := Lib.hid (And.intro h1 h2)
    clear h1 h2
    go_wp2_with fail
    go_end0
    refine ⟨rfl, A', c', .inr ⟨hf, ?_⟩, only_setCell (only_setCell (only_below (World.grownBy.refl w (some g)) hb1) (.inl rfl) _) (.inl rfl) _⟩
    have := HH.out.2.set_ 1 (.slice none 0 0)
    simpa [ptC] using this
end Go.Proofs.YtmnanbcinfdbaaaDoor
end

section
namespace Go.Proofs.YtmnanbcinfdbaaaDoor
open Go.RowKit Go.Proofs.U
set_option linter.unusedVariables false
set_option maxRecDepth 100000 in
set_option maxHeartbeats 1000000 in
theorem feed_nil (A : Option Addr) (n c : Nat) (w : World) : Calls Tryd.prog 60 #[.pointer none, .slice A n c] w fun e w' => e = .returned (.tuple #[.slice none 0 0, .int .i64 1]) ∧ Drawn w w' := by
  go_enter_defers Tryd.func60, Tryd.ntmps60
  go_wp2_with fail
  go_step3
  go_wp2_with (go_at_call 92; refine (fault_nil _).mono ?_; rintro e w1 ⟨rfl, rfl⟩)
  rw [Exit.noGoto_ret]
  refine ⟨_, results_tmp2 rfl _ _ _, rfl, Drawn.refl _⟩
end Go.Proofs.YtmnanbcinfdbaaaDoor
end
