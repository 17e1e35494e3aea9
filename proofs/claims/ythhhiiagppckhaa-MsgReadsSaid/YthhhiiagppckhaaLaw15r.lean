/- The walk of MsgReads; conditions: none beyond its hypotheses. -/
import Derived.Test.YthhhiiagppckhaaMs13
namespace Go.Proofs.Ms
open Go.Proofs.Gr
set_option linter.unusedVariables false
theorem enum_max (b : List UInt8) (f : Nat) : (enum MAX b f).1 < 18446744073709551616 := Nat.lt_of_le_of_lt (enum_le MAX b f) (by decide)
theorem drow_wf (b : List UInt8) (f : Nat) : (drow b f).1.version < 18446744073709551616 ∧ (drow b f).1.stamp < 18446744073709551616 := by
  unfold drow; exact ⟨enum_max _ _, enum_max _ _⟩
theorem drows_wf : ∀ (n : Nat) (b : List UInt8) (f : Nat), (drows n b f).1.length ≤ n ∧ ∀ x ∈ (drows n b f).1, x.version < 18446744073709551616 ∧ x.stamp < 18446744073709551616
  | 0, b, f => ⟨Nat.le_refl _, by intro x hx; cases hx⟩
  | n + 1, b, f => by
    unfold drows
    split
    · obtain ⟨h1, h2⟩ := drows_wf n (drow b f).2.1 (drow b f).2.2
      refine ⟨by simp only [List.length_cons]; omega, fun x hx => ?_⟩
      rcases List.mem_cons.1 hx with rfl | hx
      · exact drow_wf b f
      · exact h2 x hx
    · exact ⟨Nat.zero_le _, by intro x hx; cases hx⟩
/-- numbers that fit, and few rows -/
def Fit (m : Msg) : Prop := m.session < 18446744073709551616 ∧ m.n < 18446744073709551616 ∧ m.version < 18446744073709551616 ∧ m.attempt < 18446744073709551616 ∧ m.stamp < 18446744073709551616 ∧
  (∀ x ∈ m.rows, x.version < 18446744073709551616 ∧ x.stamp < 18446744073709551616) ∧ m.rows.length ≤ 8
theorem ite_fit {p : Prop} [Decidable p] {a b : St} (h1 : Fit a.1) (h2 : Fit b.1) : Fit (if p then a else b).1 := by
  split
  · exact h1
  · exact h2
theorem step_fit (c : UInt8) (s : St) (h : Fit s.1) : Fit (step c s).1 := by
  obtain ⟨h1, h2, h3, h4, h5, h6, h7⟩ := h
  have hr : Fit {s.1 with rows := (rowsP s.2.1 s.2.2).1} := by
    have hd := drows_wf (enum 8 s.2.1 s.2.2).1 (enum 8 s.2.1 s.2.2).2.1 (enum 8 s.2.1 s.2.2).2.2
    have he := enum_le 8 s.2.1 s.2.2
    exact ⟨h1, h2, h3, h4, h5, hd.2, Nat.le_trans hd.1 he⟩
  unfold step
  repeat' refine ite_fit ?_ ?_
  all_goals first
    | exact ⟨h1, h2, h3, h4, h5, h6, h7⟩
    | exact ⟨enum_max _ _, h2, h3, h4, h5, h6, h7⟩
    | exact ⟨h1, enum_max _ _, h3, h4, h5, h6, h7⟩
    | exact ⟨h1, h2, enum_max _ _, h4, h5, h6, h7⟩
    | exact ⟨h1, h2, h3, enum_max _ _, h5, h6, h7⟩
    | exact ⟨h1, h2, h3, h4, enum_max _ _, h6, h7⟩
    | exact hr
theorem steps_fit : ∀ (l : List UInt8) (s : St), Fit s.1 → Fit (steps l s).1
  | [], s, h => h
  | c :: l, s, h => by rw [steps_cons]; exact steps_fit l _ (step_fit c s h)
theorem zero_fit : Fit zero := ⟨by decide, by decide, by decide, by decide, by decide, (fun x hx => by cases hx), by decide⟩
theorem readP_fit (b : List UInt8) : Fit (readP b).1 := by
  unfold readP
  simp only
  split
  · exact zero_fit
  · split
    · exact zero_fit
    · exact steps_fit _ _ zero_fit
end Go.Proofs.Ms
namespace Go.Proofs.Ythhhiiagppckhaa
open Go.RowKit Go.Proofs.U
set_option linter.unusedVariables false
theorem fit_wf {m : Ms.Msg} (h : Ms.Fit m) : Ms.Wf m := ⟨h.1, h.2.1, h.2.2.1, h.2.2.2.1, h.2.2.2.2.1, h.2.2.2.2.2.1⟩
def Yes (w : World) (e : Ending) (w' : World) : Prop := e = .returned (.bool true) ∧ Below w.heap.size w w'
set_option maxRecDepth 100000 in
set_option maxHeartbeats 4000000 in
theorem msgReads_any (A : Option Addr) (n c : Nat) (b : List UInt8) (w : World) (hb : BS w w.heap.size A n b) (hc : n ≤ c) (hm : n ≤ maxLen) :
    Calls Try.prog 3 #[.slice A n c] w (Yes w) := by
  unfold maxLen at hm
  by_cases hn : n ≤ 5000
  · have hl := hb.1
    have hfit := Ms.readP_fit b
    have hbk := Ms.readP_back (b := b)
    have rd := fun w' (h' : BS w' w.heap.size A n b) (hB : w.heap.size ≤ w'.heap.size) => mRead_any A n c w.heap.size b w' h' hB hc (by omega)
    have rrd := fun w' (h' : BS w' w.heap.size A n b) (hB : w.heap.size ≤ w'.heap.size) => rRead_any A n c w.heap.size b w' h' hB hc (by omega)
    obtain ⟨⟨m, f⟩, hR⟩ : ∃ R, Ms.readP b = R := ⟨_, rfl⟩
    rw [hR] at hfit hbk rd rrd
    simp only at hfit hbk
    have HF := Lib.hid (And.intro hfit (And.intro hbk hl))
    have HC := Lib.hid (And.intro rd rrd)
    clear hfit hbk rd rrd hl hR
    go_enter Try.func3, Try.ntmps3
    go_wp2_with fail
    refine (HC.out.1 w hb (Nat.le_refl _)).mono ?_
    rintro e w1 ⟨v, rfl, hv, hb1⟩
    obtain ⟨A1, c1, A2, c2, rfl, hv'⟩ := id hv
    clear hv'
    simp only [mCells]
    go_wp2_with fail
    have hal1 := alloc_b w1 (.cells (mCells m A1 c1 A2 c2) 28)
    have hv1 := hv.below hal1
    have hk1 := Blk.new w1 28 (mCells m A1 c1 A2 c2)
    have hbw1 := hb1.trans (hal1.mono hb1.size)
    simp only [mCells] at hal1 hv1 hk1 hbw1
    generalize (w1.alloc (.cells #[.int .i64 m.kind, .int .u64 (m.session : Int), .int .u64 (m.n : Int), .int .i64 m.proto, .string (strOf m.path), .int .i64 m.what, .int .u64 (m.version : Int), .int .u64 (m.attempt : Int), .int .u64 (m.stamp : Int),
      .int .i64 m.offset, .int .i64 m.total, .int .i64 m.size, .int .i64 m.code, .bool m.flag, .slice A1 m.data.length c1, .slice A2 m.rows.length c2] 28)) = w2 at hal1 hv1 hk1 hbw1 ⊢
    refine (HC.out.2 w2 (hb.below hbw1) hbw1.size).mono ?_
    rintro e w3 ⟨v', rfl, hv3, hb3⟩
    obtain ⟨A3, c3, A4, c4, rfl, hv'⟩ := id hv3
    clear hv'
    have hv13 := hv1.below hb3
    have hbw3 := hbw1.trans (hb3.mono hbw1.size)
    have hal3 := alloc_b w3 (.cells (mCells m A3 c3 A4 c4) 28)
    have hv5 := hv3.below hal3
    have hv15 := hv13.below hal3
    have hk35 := (hk1.stay hb3).stay hal3
    have hk5 := Blk.new w3 28 (mCells m A3 c3 A4 c4)
    have hbw5 := hbw3.trans (hal3.mono hbw3.size)
    simp only [mCells] at hal3 hk5 hv5 hv15 hk35 hbw5 ⊢
    obtain ⟨x0, x1, x2, x3, x4, x5, x6, x7, x8, x9, x10, x11, x12, x13, x14, x15⟩ := msg_cells (A := A1) (c := c1) (A2 := A2) (c2 := c2) hk35
    have hsm := rsame15_eq w.heap.size w.heap.size m _ _ _ hv15 hv5 (by have := HF.out.1.2.2.2.2.2.2; omega)
    have hff1 : ((f : Int) != (f : Int)) = false := by simp
    by_cases hf : f = 0
    · subst hf
      have hck := (HF.out.2.1 rfl).1
      have henc := (HF.out.2.1 rfl).2
      have hwr : wrM m = b := by unfold wrM; rw [if_pos hck, henc]
      have hW := fun w' (h' : MsgV w' w.heap.size m (.agg (mCells m A1 c1 A2 c2))) => mwrite_any w.heap.size m _ w' h' (by have := HF.out.1.2.2.2.2.2.2; omega) (fit_wf HF.out.1)
      unfold WriteRet at hW
      rw [hck, hwr, HF.out.2.2] at hW
      simp only [mCells] at hW
      have HW := Lib.hid hW
      clear hW hck henc hwr
      go_wp2_with (first
        | (go_at_call 7; refine hsm.mono ?_; rintro e w6 ⟨rfl, hb6⟩
           obtain ⟨z0, z1, z2, z3, z4, z5, z6, z7, z8, z9, z10, z11, z12, z13, z14, z15⟩ := msg_cells (A := A1) (c := c1) (A2 := A2) (c2 := c2) (hk35.stay hb6))
        | (go_at_call 8
           refine (HW.out _ (hv15.below hb6)).mono ?_
           rintro e w7 ⟨A7, c7, rfl, hown7, hb7⟩)
        | (go_at_call 9
           have hbw7 := (hbw5.trans (hb6.mono hbw5.size)).trans (hb7.mono (Nat.le_trans hbw5.size hb6.size))
           refine (same_any _ _ _ b _ _ _ b w7 w7.heap.size w.heap.size hown7.bs (hb.below hbw7)).mono ?_
           rintro e w8 ⟨rfl, rfl⟩
           rw [show (b == b) = true by simp])
        | (go_at_call 4; refine (lives15_any _).mono ?_; rintro e w9 ⟨rfl, hb9⟩))
      go_ret
      exact ⟨rfl, hbw7.trans (hb9.mono hbw7.size)⟩
    · have hf2 : ((f : Int) != 0) = true := by rw [bne_iff_ne]; omega
      have hf3 : ((f : Int) == 0) = false := by rw [beq_eq_false_iff_ne]; omega
      go_wp2_with (first
        | (go_at_call 7; refine hsm.mono ?_; rintro e w6 ⟨rfl, hb6⟩)
        | (go_at_call 4; refine (lives15_any _).mono ?_; rintro e w7 ⟨rfl, hb7⟩))
      go_ret
      have hb56 := hbw5.trans (hb6.mono hbw5.size)
      exact ⟨rfl, hb56.trans (hb7.mono hb56.size)⟩
  · have hn' : 5000 < n := by omega
    go_enter Try.func3, Try.ntmps3
    go_wp2_with (go_at_call 4; refine (lives15_any _).mono ?_; rintro e w7 ⟨rfl, hb7⟩)
    go_ret
    exact ⟨rfl, hb7⟩
end Go.Proofs.Ythhhiiagppckhaa
