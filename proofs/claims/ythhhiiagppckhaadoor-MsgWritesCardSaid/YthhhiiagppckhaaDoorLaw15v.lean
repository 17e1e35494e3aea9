/- The walk of MsgWrites, but for right messages; conditions: none beyond its hypotheses. -/
import Derived.Test.YthhhiiagppckhaaDoorMw4
import Derived.Test.YthhhiiagppckhaaDoorMw5
import Derived.Test.YthhhiiagppckhaaDoorMw6
import Derived.Test.YthhhiiagppckhaaDoorDfs
import Derived.Test.YthhhiiagppckhaaDoorMfit
import Derived.BigQuiet
import Derived.Deep.QuietTactic
namespace Go.Proofs.YthhhiiagppckhaaDoor
open Go.RowKit Go.Proofs.U
set_option linter.unusedVariables false

theorem pstep_rows (c : UInt8) (hc : c ∈ Ms.alpha) (m x : Ms.Msg) : (Ms.pstep c m x).rows = if c = 114 then m.rows else x.rows := by
  simp only [Ms.alpha, List.mem_cons, List.not_mem_nil, or_false] at hc
  rcases hc with rfl | rfl | rfl | rfl | rfl | rfl | rfl | rfl | rfl | rfl | rfl | rfl | rfl | rfl | rfl <;> rfl
theorem psteps_parts (m : Ms.Msg) : ∀ (l : List UInt8) (x : Ms.Msg), (∀ c ∈ l, c ∈ Ms.alpha) → (Ms.psteps l m x).data = (if (100 : UInt8) ∈ l then m.data else x.data) ∧ (Ms.psteps l m x).rows = (if (114 : UInt8) ∈ l then m.rows else x.rows)
  | [], x, _ => by simp [Ms.psteps]
  | c :: l, x, h => by
    obtain ⟨h1, h2⟩ := psteps_parts m l (Ms.pstep c m x) fun y hy => h y (List.mem_cons_of_mem _ hy)
    have e : Ms.psteps (c :: l) m x = Ms.psteps l m (Ms.pstep c m x) := rfl
    have hca := h c List.mem_cons_self
    rw [e, h1, h2, pstep_rows c hca]
    constructor
    · by_cases hm : (100 : UInt8) ∈ l
      · simp [hm]
      · simp only [hm, if_false, List.mem_cons, or_false]
        simp only [Ms.alpha, List.mem_cons, List.not_mem_nil, or_false] at hca
        rcases hca with rfl | rfl | rfl | rfl | rfl | rfl | rfl | rfl | rfl | rfl | rfl | rfl | rfl | rfl | rfl <;> rfl
    · by_cases hm : (114 : UInt8) ∈ l
      · simp [hm]
      · simp only [hm, if_false, List.mem_cons, or_false, eq_comm]
theorem plain_parts (m : Ms.Msg) : (Ms.plain m).data = (if (100 : UInt8) ∈ Ms.has m.kind then m.data else []) ∧ (Ms.plain m).rows = (if (114 : UInt8) ∈ Ms.has m.kind then m.rows else []) := by
  unfold Ms.plain
  by_cases h : Ms.has m.kind = []
  · rw [if_pos h, h]; exact ⟨rfl, rfl⟩
  · rw [if_neg h]
    exact psteps_parts m (Ms.has m.kind) _ (Ms.hasN_alpha _).1
def Yes15 (w : World) (e : Ending) (w' : World) : Prop := e = .returned (.bool true) ∧ Below w.heap.size w w'
theorem wf_wid {m : Ms.Msg} (h : Ms.Wf m) : Ms.Wid m := ⟨h.session, h.n, h.version, h.attempt, h.stamp, h.rows⟩
set_option maxRecDepth 100000 in
set_option maxHeartbeats 8000000 in
theorem mw_heavy (v : Value) (m : Ms.Msg) (w : World) (h : MsgV w w.heap.size m v) (hwf : Ms.Wf m) (hbig : Ms.Big m) (hT : Nib w) (hlF : lightM m = false) :
    Calls Tryd.prog 3 #[v] w (Yes15 w) := by
  have hv := h
  obtain ⟨A, c, A2, c2, rfl, ha1, ha2, ha3, ha4⟩ := h
  have hw1 : ∃ w1, w1 = (w.alloc (.cells (mCells m A c A2 c2) 27)) := ⟨_, rfl⟩
  have hk1 : Blk (w.alloc (.cells (mCells m A c A2 c2) 27)) w.heap.size 27 (mCells m A c A2 c2) := Blk.new w _ _
  have hb1 := alloc_b w (.cells (mCells m A c A2 c2) 27)
  have hlt := fun W (h' : MsgV W w.heap.size m (.agg (mCells m A c A2 c2))) => light15_any w.heap.size m _ W h' hbig
  obtain ⟨lm, hlm⟩ : ∃ lm, lm = lightM m := ⟨_, rfl⟩
  rw [← hlm] at hlt
  rw [hlF] at hlm
  subst hlm
  have HWF := Lib.hid (And.intro hwf hbig)
  have HT := Lib.hid hT
  clear hwf hbig hT
  simp only [mCells] at hw1 hb1 hk1 ⊢
  obtain ⟨w1, hw1⟩ := hw1
  go_enter Tryd.func3, Tryd.ntmps3
  go_wp2_with fail
  rw [← hw1] at hb1 hk1 ⊢
  refine (hlt w1 (hv.below hb1)).mono ?_
  rintro e w2 ⟨rfl, hb2⟩
  have hb12 := hb1.trans (hb2.mono hb1.size)
  go_wp2_with (go_at_call 11; refine (lives15_any _).mono ?_; rintro e w7 ⟨rfl, hb7⟩)
  go_ret
  exact ⟨rfl, hb12.trans (hb7.mono hb12.size)⟩
set_option maxRecDepth 100000 in
set_option maxHeartbeats 8000000 in
theorem mw_wrong (v : Value) (m : Ms.Msg) (w : World) (h : MsgV w w.heap.size m v) (hwf : Ms.Wf m) (hbig : Ms.Big m) (hT : Nib w) (hlF : lightM m = true) (hck0 : Ms.check m ≠ 0) :
    Calls Tryd.prog 3 #[v] w (Yes15 w) := by
  have hv := h
  obtain ⟨A, c, A2, c2, rfl, ha1, ha2, ha3, ha4⟩ := h
  have hw1 : ∃ w1, w1 = (w.alloc (.cells (mCells m A c A2 c2) 27)) := ⟨_, rfl⟩
  have hk1 : Blk (w.alloc (.cells (mCells m A c A2 c2) 27)) w.heap.size 27 (mCells m A c A2 c2) := Blk.new w _ _
  have hb1 := alloc_b w (.cells (mCells m A c A2 c2) 27)
  have hlt := fun W (h' : MsgV W w.heap.size m (.agg (mCells m A c A2 c2))) => light15_any w.heap.size m _ W h' hbig
  obtain ⟨lm, hlm⟩ : ∃ lm, lm = lightM m := ⟨_, rfl⟩
  rw [← hlm] at hlt
  rw [hlF] at hlm
  subst hlm
  have HLM := Lib.hid hlF.symm
  have HWF := Lib.hid (And.intro hwf hbig)
  have HT := Lib.hid hT
  have HC0 := Lib.hid hck0
  clear hck0 hlF hwf hbig hT
  simp only [mCells] at hw1 hb1 hk1 ⊢
  obtain ⟨w1, hw1⟩ := hw1
  have hrl : m.rows.length ≤ 100 := by
    have h := HLM.out
    unfold lightM at h
    have h' := (Bool.and_eq_true _ _).mp h.symm
    exact of_decide_eq_true h'.2
  have hW := fun W (h' : MsgV W w.heap.size m (.agg (mCells m A c A2 c2))) => mwrite_any w.heap.size m _ W h' (by omega) HWF.out.1
  have hRW := fun W (h' : MsgV W w.heap.size m (.agg (mCells m A c A2 c2))) => rwrite_any w.heap.size m _ W h' (by omega) HWF.out.1
  obtain ⟨X, hX⟩ : ∃ X, X = wrM m := ⟨_, rfl⟩
  obtain ⟨CK, hCK⟩ : ∃ CK, CK = Ms.check m := ⟨_, rfl⟩
  unfold WriteRet at hW hRW
  rw [← hX, ← hCK] at hW hRW
  obtain ⟨xl, hxl⟩ : ∃ xl, xl = X.length := ⟨_, rfl⟩
  rw [← hxl] at hW hRW
  have HC := Lib.hid (And.intro hW hRW)
  have HX := Lib.hid (And.intro hX (And.intro hCK hxl))
  clear hW hRW hX hCK hxl
  go_enter Tryd.func3, Tryd.ntmps3
  go_wp2_with fail
  rw [← hw1] at hb1 hk1 ⊢
  refine (hlt w1 (hv.below hb1)).mono ?_
  rintro e w2 ⟨rfl, hb2⟩
  have hb12 := hb1.trans (hb2.mono hb1.size)
  have hk2 := hk1.stay hb2
  obtain ⟨x0, x1, x2, x3, x4, x5, x6, x7, x8, x9, x10, x11, x12, x13, x14, x15⟩ := msg_cells (A := A) (c := c) (A2 := A2) (c2 := c2) hk2
  clear hlt hw1 hk1 hb2 hb1
  go_wp2_with fail
  refine (HC.out.1 w2 (hv.below hb12)).mono ?_
  rintro e w3 ⟨A3, c3, rfl, hown3, hb3⟩
  have hbw3 := hb12.trans (hb3.mono hb12.size)
  have hk3 := hk2.stay hb3
  obtain ⟨y0, y1, y2, y3, y4, y5, y6, y7, y8, y9, y10, y11, y12, y13, y14, y15⟩ := msg_cells (A := A) (c := c) (A2 := A2) (c2 := c2) hk3
  clear x0 x1 x2 x3 x4 x5 x6 x7 x8 x9 x10 x11 x12 x13 x14 x15 hk2 hb12
  go_wp2_with fail
  refine (HC.out.2 w3 (hv.below hbw3)).mono ?_
  rintro e w4 ⟨A4, c4, rfl, hown4, hb4⟩
  have hbw4 := hbw3.trans (hb4.mono hbw3.size)
  have hk4 := hk3.stay hb4
  have hown34 := hown3.below hb4
  have hff1 : ((CK : Int) != (CK : Int)) = false := by simp
  clear y0 y1 y2 y3 y4 y5 y6 y7 y8 y9 y10 y11 y12 y13 y14 y15 hk3 hb4 hown3 hb3
  have h0 : CK ≠ 0 := by rw [HX.out.2.1]; exact HC0.out
  have hf2 : ((CK : Int) != 0) = true := by rw [bne_iff_ne]; omega
  have hf3 : ((CK : Int) == 0) = false := by rw [beq_eq_false_iff_ne]; omega
  go_wp2_with (first
    | (go_at_call 14
       refine (same_any _ _ _ X _ _ _ X w4 w4.heap.size w4.heap.size hown34.bs hown4.bs).mono ?_
       rintro e w8 ⟨rfl, rfl⟩
       rw [show (X == X) = true by simp])
    | (go_at_call 11; refine (lives15_any _).mono ?_; rintro e w7 ⟨rfl, hb7⟩))
  go_ret
  exact ⟨rfl, hbw4.trans (hb7.mono hbw4.size)⟩
end Go.Proofs.YthhhiiagppckhaaDoor
