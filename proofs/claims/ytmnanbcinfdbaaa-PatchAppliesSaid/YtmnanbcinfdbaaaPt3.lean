/- The walks of a patch's End, does, and keep; conditions: none beyond their hypotheses. -/
import Derived.Test.YtmnanbcinfdbaaaPt2
namespace Go.Proofs.Ytmnanbcinfdbaaa
open Go.RowKit Go.Proofs.U
set_option linter.unusedVariables false

set_option maxHeartbeats 400000 in
theorem end_nil (w : World) : Calls Try.prog 26 #[.pointer none] w fun e w' => e = .returned (.int .i64 1) ∧ Drawn w w' := by
  go_enter Try.func26, Try.ntmps26
  go_wp2_with fail
  refine (fault_nil _).mono ?_
  rintro e w1 ⟨rfl, rfl⟩
  go_wp2_with fail
  refine (fault_nil _).mono ?_
  rintro e w1 ⟨rfl, rfl⟩
  go_wp2_with fail
  go_ret
  exact ⟨rfl, Drawn.refl _⟩
/-- does: the bytes of a right step -/
theorem does_lit (A D : Option Addr) (n c m cd : Nat) (k f l : Int) (hk : k ≠ 1) (w : World) :
    Calls Try.prog 50 #[.slice A n c, .agg #[.int .i64 k, .int .i64 f, .int .i64 l, .slice D m cd]] w fun e w' => e = .returned (.slice D m cd) ∧ Below w.heap.size w w' := by
  have e1 : (k == 1) = false := by rw [beq_eq_false_iff_ne]; omega
  have hb1 : ∀ o, Below w.heap.size w (w.alloc o) := fun o => (Below.refl _ _).alloc (Nat.le_refl _) _
  go_enter Try.func50, Try.ntmps50
  go_wp2_with fail
  go_ret
  exact ⟨rfl, hb1 _⟩
theorem does_copy (b off n c m cd f l : Nat) (D : Option Addr) (hf : f + l ≤ n) (hl : 1 ≤ l) (hc : n ≤ c) (hn : n ≤ 4096) (w : World) :
    Calls Try.prog 50 #[.slice (some ⟨b, off, none⟩) n c, .agg #[.int .i64 1, .int .i64 (f : Int), .int .i64 (l : Int), .slice D m cd]] w fun e w' => e = .returned (.slice (some ⟨b, off + f, none⟩) l (c - f)) ∧ Below w.heap.size w w' := by
  have hb1 : ∀ o, Below w.heap.size w (w.alloc o) := fun o => (Below.refl _ _).alloc (Nat.le_refl _) _
  have hcf : ¬ c = f := by omega
  go_enter Try.func50, Try.ntmps50
  go_wp2_with fail
  go_ret
  refine ⟨?_, hb1 _⟩
  show Ending.returned (.slice (some ⟨b, off + f, none⟩) (f + l - f) (c - f)) = _
  rw [Nat.add_sub_cancel_left]
/-- keep, as a deferred call -/
theorem keep_d (g r : Nat) (Ab Ah A : Option Addr) (nb cb nh ch n c : Nat) (o f : Int) (bs : List UInt8) (u : FrameMode) (w : World) (B : Nat)
    (h : Blk w g 79 (ptC Ab nb cb Ah nh ch o f)) (hr : Blk w r 22 #[.slice A n c]) (hb : BS w B A n bs) (hB : B ≤ w.heap.size) (hn : n ≤ 140737488355328) :
    CallsD Try.prog 49 #[.pointer (some ⟨g, 0, none⟩), .pointer (some ⟨r, 0, none⟩)] u w fun e u' w' => u' = u ∧ e = .returned (.tuple #[]) ∧
      ∃ A' c', (f = 0 ∧ Blk w' g 79 (ptC Ab nb cb A' n c' o f) ∧ Own w' w.heap.size 5 A' n c' bs ∨ f ≠ 0 ∧ Blk w' g 79 (ptC Ab nb cb none 0 0 o f)) ∧ w.grownBy w' (some g) := by
  have c1 := h.cell 1
  have c3 := h.cell 3
  have d0 := hr.cell 0
  simp [ptC] at c1 c3 d0
  by_cases hf : f = 0
  · subst hf
    go_enter_d Try.func49, Try.ntmps49
    go_wp2_with fail
    refine (sclone_any A n c bs w B hb hB hn).mono ?_
    rintro e w1 ⟨A', c', rfl, hown, hb1⟩
    have h1 := h.stay hb1
    have k1 := h1.cell 1
    have k3 := h1.cell 3
    have fz := h1.frozen 1
    simp [ptC] at k1 k3
    go_wp2_with fail
    go_end0
    have hg := fun V => only_setCell (World.grownBy.refl w1 (some g)) (p := ⟨g, 1, none⟩) (.inl rfl) V
    refine ⟨rfl, A', c', .inl ⟨trivial, ?_, World.ownsRow.kept hown (hg _) ?_⟩, only_setCell (only_below (World.grownBy.refl w (some g)) hb1) (.inl rfl) _⟩
    · have := h1.set_ 1 (.slice A' n c')
      simpa [ptC] using this
    · rcases hw : (Value.slice A' n c').ownBlock with _ | k
      · exact .inl rfl
      · refine .inr ?_
        have := (World.ownsRow.lt hown k hw).1
        have := h.lt
        simp; omega
  · have e1 : (f != 0) = true := by rw [bne_iff_ne]; exact hf
    go_enter_d Try.func49, Try.ntmps49
    go_wp2_with fail
    refine (sclone_any A n c bs w B hb hB hn).mono ?_
    rintro e w1 ⟨A', c', rfl, hown, hb1⟩
    have h1 := h.stay hb1
    have k1 := h1.cell 1
    have k3 := h1.cell 3
    have fz := h1.frozen 1
    simp [ptC] at k1 k3
    have h2 := h1.set_ 1 (.slice A' n c')
    have j1 := h2.cell 1
    have j3 := h2.cell 3
    have fz2 := h2.frozen 1
    simp [ptC] at j1 j3
    have HH := Lib.hid (And.intro h1 h2)
    clear h1 h2
    go_wp2_with fail
    go_end0
    refine ⟨rfl, A', c', .inr ⟨hf, ?_⟩, only_setCell (only_setCell (only_below (World.grownBy.refl w (some g)) hb1) (.inl rfl) _) (.inl rfl) _⟩
    have := HH.out.2.set_ 1 (.slice none 0 0)
    simpa [ptC] using this
end Go.Proofs.Ytmnanbcinfdbaaa
