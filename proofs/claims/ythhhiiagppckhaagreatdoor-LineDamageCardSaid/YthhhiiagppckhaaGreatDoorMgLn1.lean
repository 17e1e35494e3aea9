/- The walks of a line's small functions; conditions: none beyond their hypotheses. The walk of right; conditions: none beyond its hypotheses. -/
import Derived.Test.YthhhiiagppckhaaGreatDoorMgDfd
import Derived.Test.YthhhiiagppckhaaGreatDoorMgEl19
set_option linter.unusedSimpArgs false
set_option linter.unusedVariables false
section
namespace Go.Proofs.YthhhiiagppckhaaGreatDoor
open Go.RowKit Go.Proofs.U Go.Proofs.Bp
set_option linter.unusedVariables false

theorem told_zero (o : List UInt8) (w : World) : Calls Tryz.prog 22 #[.int .i64 0, .string (strOf o)] w (ErRet w .nil) := by
  go_enter Tryz.func22, Tryz.ntmps22
  go_wp2_with fail
  refine (of_zero _ _ w).mono ?_
  rintro e w1 ⟨v, rfl, hv, hb⟩
  go_wp2_with fail
  go_ret
  exact ⟨v, rfl, hv, hb⟩
theorem told_code {N : Nat → Prop} (c : Int) (hc : c ≠ 0) (o : List UInt8) (w : World) (hN : ∀ b, w.heap.size ≤ b → N b) : Calls Tryz.prog 22 #[.int .i64 c, .string (strOf o)] w (ErRetN N w (.one o [] (.code c))) := by
  have h := of_any (N := N) c hc o [] w hN
  go_enter Tryz.func22, Tryz.ntmps22
  go_wp2_with fail
  refine h.mono ?_
  rintro e w1 ⟨v, rfl, hv, hb⟩
  go_wp2_with fail
  go_ret
  exact ⟨v, rfl, hv, hb⟩
theorem Ink.shut {w : World} {g : Nat} {P : List UInt8} {e : Int} (h : Ink w g P e) : w.cell? ⟨g, 1412, none⟩ = some (.bool false) := by
  obtain ⟨tl, hl, hb⟩ := h
  rw [hb.cell, List.getElem?_toArray]
  unfold inkL; rw [List.getElem?_append_right (by simp; omega)]; simp [hl]
theorem Ink.none_ {w : World} {g : Nat} {P : List UInt8} {e : Int} (h : Ink w g P e) : w.cell? ⟨g, 1413, none⟩ = some .nilIface := by
  obtain ⟨tl, hl, hb⟩ := h
  rw [hb.cell, List.getElem?_toArray]
  unfold inkL; rw [List.getElem?_append_right (by simp; omega)]; simp [hl]
theorem refuse_open (g : Nat) (P : List UInt8) (e : Int) (o : ByteArray) (w : World) (h : Ink w g P e) : Calls Tryz.prog 18 #[.pointer (some ⟨g, 0, none⟩), .string o] w fun en w' => en = .returned .nilIface ∧ w' = w := by
  have c1 := h.shut
  have hl := h.lt
  go_enter Tryz.func18, Tryz.ntmps18
  go_wp2_with fail
  go_ret
  exact ⟨rfl, rfl⟩
theorem new_line (w : World) : Calls Tryz.prog 7 #[] w fun en w' => ∃ g, en = .returned (.pointer (some ⟨g, 0, none⟩)) ∧ g = w.heap.size ∧ Ink w' g [] 0 ∧ Below w.heap.size w w' := by
  have hal := (Below.refl w.heap.size w).alloc (Nat.le_refl _) (.cells ink0 61)
  have hk : Ink (w.alloc (.cells ink0 61)) w.heap.size [] 0 := ⟨List.replicate 1410 0, by rw [List.length_replicate]; rfl, by rw [← ink0_eq]; exact Blk.new _ _ _⟩
  obtain ⟨hz, hs⟩ := Go.zero_of_info zero_ink
  go_enter Tryz.func7, Tryz.ntmps7
  go_wp2_with fail
  go_ret
  exact ⟨_, rfl, rfl, hk, hal⟩
end Go.Proofs.YthhhiiagppckhaaGreatDoor
end

section
namespace Go.Proofs.YthhhiiagppckhaaGreatDoor
open Go.RowKit Go.Proofs.U Go.Proofs.Bp
set_option linter.unusedVariables false

theorem right_nil (w : World) : Calls Tryz.prog 11 #[.nilIface, .int .i64 0] w fun e w' => e = .returned (.bool true) ∧ w' = w := by
  go_enter Tryz.func11, Tryz.ntmps11
  go_wp2_with fail
  go_ret
  exact ⟨rfl, rfl⟩
set_option maxHeartbeats 1000000 in
theorem right_code (c : Int) (hc : c ≠ 0) (o p : List UInt8) (v : Value) (w : World) (h : ErV w (.one o p (.code c)) v) (hE : ErrT w) : Calls Tryz.prog 11 #[v, .int .i64 c] w fun e w' => e = .returned (.bool true) ∧ Below w.heap.size w w' := by
  have hok : (Er.one o p (.code c)).ok := hc
  obtain ⟨T, x, rfl⟩ := ErVn.iface h (by simp)
  have h1 := Is_any (.one o p (.code c)) _ c w hok h
  have h1' : Calls Tryz.prog 23 #[.iface T x, .iface 23 (.int .i64 c)] w fun e w' => e = .returned (.bool true) ∧ Below w.heap.size w w' := by
    have e : Er.has c (.one o p (.code c)) = true := by simp [Er.has]
    unfold IsRet at h1
    rw [e] at h1; exact h1
  have h2 : ∀ w', ErV w' (.one o p (.code c)) (.iface T x) → ErrT w' → Calls Tryz.prog 24 #[.iface T x] w' fun e w2 => e = .returned (.int .i64 c) ∧ Below w'.heap.size w' w2 := fun w' hv hg => by
    have h := code_any (.one o p (.code c)) _ w' (by simp [siz]) (.inr hok) hv hg
    have e : first0 (Er.codes (.one o p (.code c))) = c := by simp [Er.codes, hc, first0]
    unfold CodeRet at h
    rw [e] at h; exact h
  have hcc : (c == 0) = false := by rw [beq_eq_false_iff_ne]; exact hc
  clear h1
  go_enter Tryz.func11, Tryz.ntmps11
  go_wp2_with (first
    | (go_at_call 23; refine h1'.mono ?_; rintro e w1 ⟨rfl, hb1⟩)
    | (go_at_call 24; refine (h2 w1 (h.below hb1) (hE.below hb1)).mono ?_; rintro e w2 ⟨rfl, hb2⟩))
  go_ret
  exact ⟨rfl, hb1.trans (hb2.mono hb1.size)⟩
end Go.Proofs.YthhhiiagppckhaaGreatDoor
end
