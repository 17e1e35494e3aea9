/- The walk of msg.Check; conditions: none beyond its hypotheses. -/
import Derived.Test.YthhhiiagppckhaaGreatDoorMgMs10
set_option linter.unusedSimpArgs false
set_option linter.unusedVariables false
section
namespace Go.Proofs.YthhhiiagppckhaaGreatDoor
open Go.RowKit Go.Proofs.U
set_option linter.unusedVariables false

theorem msg_cells {w : World} {g : Nat} {m : Ms.Msg} {A A2 : Option Addr} {c c2 : Nat} (h : Blk w g 27 (mCells m A c A2 c2)) :
    w.cell? ⟨g, 0, none⟩ = some (.int .i64 m.kind) ∧ w.cell? ⟨g, 1, none⟩ = some (.int .u64 (m.session : Int)) ∧ w.cell? ⟨g, 2, none⟩ = some (.int .u64 (m.n : Int)) ∧ w.cell? ⟨g, 3, none⟩ = some (.int .i64 m.proto) ∧
    w.cell? ⟨g, 4, none⟩ = some (.string (strOf m.path)) ∧ w.cell? ⟨g, 5, none⟩ = some (.int .i64 m.what) ∧ w.cell? ⟨g, 6, none⟩ = some (.int .u64 (m.version : Int)) ∧ w.cell? ⟨g, 7, none⟩ = some (.int .u64 (m.attempt : Int)) ∧
    w.cell? ⟨g, 8, none⟩ = some (.int .u64 (m.stamp : Int)) ∧ w.cell? ⟨g, 9, none⟩ = some (.int .i64 m.offset) ∧ w.cell? ⟨g, 10, none⟩ = some (.int .i64 m.total) ∧ w.cell? ⟨g, 11, none⟩ = some (.int .i64 m.size) ∧
    w.cell? ⟨g, 12, none⟩ = some (.int .i64 m.code) ∧ w.cell? ⟨g, 13, none⟩ = some (.bool m.flag) ∧ w.cell? ⟨g, 14, none⟩ = some (.slice A m.data.length c) ∧ w.cell? ⟨g, 15, none⟩ = some (.slice A2 m.rows.length c2) :=
  ⟨h.cell 0, h.cell 1, h.cell 2, h.cell 3, h.cell 4, h.cell 5, h.cell 6, h.cell 7, h.cell 8, h.cell 9, h.cell 10, h.cell 11, h.cell 12, h.cell 13, h.cell 14, h.cell 15⟩
theorem check_in {m : Ms.Msg} {k : Nat} (hk : m.kind = (k : Int) + 1) (hk16 : k < 16) : Ms.check m = if ((Ms.hasN (k + 1)).all fun c => Ms.bnd c m) = false then 2 else if ((Ms.hasN (k + 1)).all fun c => Ms.len c m) = false then 13 else 0 := by
  have e : Ms.has m.kind = Ms.hasN (k + 1) := by unfold Ms.has; rw [hk]; congr 1
  have hne : Ms.hasN (k + 1) ≠ [] := by simpa using hasN_ne k hk16
  unfold Ms.check
  rw [e]
  by_cases h : ((Ms.hasN (k + 1)).all fun c => Ms.bnd c m) = false
  · rw [if_pos (.inr h), if_pos h]
  · rw [if_neg (by rintro (h1 | h1); exact hne h1; exact h h1), if_neg h]
theorem check_no {m : Ms.Msg} (hk : m.kind < 1 ∨ 16 < m.kind) : Ms.check m = 2 := by
  have e : Ms.has m.kind = [] := by
    unfold Ms.has
    exact hasN_none _ (by omega)
  unfold Ms.check
  rw [e, if_pos (.inl rfl)]
set_option maxRecDepth 100000 in
set_option maxHeartbeats 4000000 in
theorem mcheck_any (B0 : Nat) (m : Ms.Msg) (v : Value) (w : World) (h : MsgV w B0 m v) (hr : m.rows.length ≤ 1000000000) :
    Calls Tryz.prog 45 #[v] w fun e w' => e = .returned (.int .i64 (Ms.check m : Int)) ∧ Below w.heap.size w w' := by
  obtain ⟨A, c, A2, c2, rfl, ha1, ha2, ha3, ha4⟩ := h
  obtain ⟨R, hR⟩ : ∃ R, R = Ms.check m := ⟨_, rfl⟩
  rw [← hR]
  have HR := Lib.hid hR
  clear hR
  have hw1 : ∃ w1, w1 = (w.alloc (.cells (mCells m A c A2 c2) 27)) := ⟨_, rfl⟩
  have hk1 : Blk (w.alloc (.cells (mCells m A c A2 c2) 27)) w.heap.size 27 (mCells m A c A2 c2) := Blk.new w _ _
  have hb1 := alloc_b w (.cells (mCells m A c A2 c2) 27)
  simp only [mCells] at hw1 hb1 ⊢
  by_cases hk : 1 ≤ m.kind ∧ m.kind ≤ 16
  · obtain ⟨k, hkk⟩ : ∃ k : Nat, m.kind = (k : Int) + 1 := ⟨(m.kind - 1).toNat, by omega⟩
    have hk16 : k < 16 := by omega
    have HC := Lib.hid (check_in hkk hk16)
    have HKK := Lib.hid hkk
    clear hkk
    have hkd := fun w' => mkind_in k hk16 w'
    rw [← HKK.out] at hkd
    go_enter Tryz.func45, Tryz.ntmps45
    go_wp2_with fail
    simp only [mCells] at hk1
    obtain ⟨w1, hw1⟩ := hw1
    rw [← hw1] at hk1 hb1 ⊢
    clear hw1
    refine (hkd _).mono ?_
    rintro e w2 ⟨rfl, hb2⟩
    rw [hasN_ne k hk16]
    obtain ⟨P, hP⟩ : ∃ P, P = Ms.hasN (k + 1) := ⟨_, rfl⟩
    obtain ⟨NM, hNM⟩ : ∃ NM, NM = nameN (k + 1) := ⟨_, rfl⟩
    have hPa : ∀ c ∈ P, c ∈ Ms.alpha := by rw [hP]; exact (Ms.hasN_alpha _).1
    have hC := HC.out
    rw [← hP] at hC
    rw [← hP, ← hNM]
    have HC2 := Lib.hid hC
    clear hP hNM HC hC hkd
    have hbw2 := hb1.trans (hb2.mono hb1.size)
    have hal := alloc_b w2 (.cells #[.string (strOf NM), .string (strOf P)] 86)
    have hk3 := (hk1.stay hb2).stay hal
    have hp3 := Blk.new w2 86 #[.string (strOf NM), .string (strOf P)]
    have hbw3 := hbw2.trans (hal.mono hbw2.size)
    have hv3 : MsgV (w2.alloc (.cells #[.string (strOf NM), .string (strOf P)] 86)) B0 m (.agg (mCells m A c A2 c2)) := ⟨A, c, A2, c2, rfl, ha1.kept (kept_below hbw3), ha2, ha3.kept (kept_below hbw3), ha4⟩
    obtain ⟨x0, x1, x2, x3, x4, x5, x6, x7, x8, x9, x10, x11, x12, x13, x14, x15⟩ := msg_cells hk3
    have y1 := hp3.cell 1
    simp only [List.getElem?_toArray, List.getElem?_cons_succ, List.getElem?_cons_zero] at y1
    have hbd := mbounds_any B0 m _ P hPa _ hv3 hr
    obtain ⟨bv, hbv⟩ : ∃ bv, bv = P.all fun c => Ms.bnd c m := ⟨_, rfl⟩
    rw [← hbv] at hbd
    simp only [mCells] at hbd
    have HB := Lib.hid hbv
    clear hbv
    cases bv with
    | false =>
      go_wp2_with (go_at_call 68; refine hbd.mono ?_; rintro e w4 ⟨rfl, hb4⟩)
      go_ret
      have hE := HR.out.trans HC2.out
      rw [if_pos HB.out.symm] at hE
      subst hE
      exact ⟨rfl, hbw3.trans (hb4.mono hbw3.size)⟩
    | true =>
      have hld := fun w' (hv' : MsgV w' B0 m (.agg (mCells m A c A2 c2))) => mlengths_any B0 m _ P hPa w' hv' hr
      obtain ⟨lv, hlv⟩ : ∃ lv, lv = P.all fun c => Ms.len c m := ⟨_, rfl⟩
      rw [← hlv] at hld
      have HLV := Lib.hid hlv
      clear hlv
      cases lv with
      | false =>
        go_wp2_with (first
        | (go_at_call 68; refine hbd.mono ?_; rintro e w4 ⟨rfl, hb4⟩
           have hk4 := hk3.stay hb4
           obtain ⟨z0, z1, z2, z3, z4, z5, z6, z7, z8, z9, z10, z11, z12, z13, z14, z15⟩ := msg_cells hk4
           have y4 := (hp3.stay hb4).cell 1
           simp only [List.getElem?_toArray, List.getElem?_cons_succ, List.getElem?_cons_zero] at y4)
        | (go_at_call 69; refine (hld _ (hv3.below hb4)).mono ?_; rintro e w5 ⟨rfl, hb5⟩))
        go_ret
        have hE := HR.out.trans HC2.out
        rw [if_neg (by rw [← HB.out]; simp), if_pos HLV.out.symm] at hE
        subst hE
        have hb34 := hbw3.trans (hb4.mono hbw3.size)
        exact ⟨rfl, hb34.trans (hb5.mono hb34.size)⟩
      | true =>
        go_wp2_with (first
        | (go_at_call 68; refine hbd.mono ?_; rintro e w4 ⟨rfl, hb4⟩
           have hk4 := hk3.stay hb4
           obtain ⟨z0, z1, z2, z3, z4, z5, z6, z7, z8, z9, z10, z11, z12, z13, z14, z15⟩ := msg_cells hk4
           have y4 := (hp3.stay hb4).cell 1
           simp only [List.getElem?_toArray, List.getElem?_cons_succ, List.getElem?_cons_zero] at y4)
        | (go_at_call 69; refine (hld _ (hv3.below hb4)).mono ?_; rintro e w5 ⟨rfl, hb5⟩))
        go_ret
        have hE := HR.out.trans HC2.out
        rw [if_neg (by rw [← HB.out]; simp), if_neg (by rw [← HLV.out]; simp)] at hE
        subst hE
        have hb34 := hbw3.trans (hb4.mono hbw3.size)
        exact ⟨rfl, hb34.trans (hb5.mono hb34.size)⟩
  · have hkk : m.kind < 1 ∨ 16 < m.kind := by omega
    have HC := Lib.hid (check_no hkk)
    have hkd := fun w' => mkind_no m.kind hkk w'
    go_enter Tryz.func45, Tryz.ntmps45
    go_wp2_with fail
    obtain ⟨w1, hw1⟩ := hw1
    rw [← hw1] at hb1 ⊢
    clear hw1 hk1
    refine (hkd _).mono ?_
    rintro e w2 ⟨rfl, hb2⟩
    rw [show decide (Ms.hasN 0 ≠ []) = false from rfl]
    go_wp2_with fail
    go_ret
    have hE := HR.out.trans HC.out
    subst hE
    have hb12 := hb1.trans (hb2.mono hb1.size)
    exact ⟨rfl, hb12.trans ((alloc_b _ _).mono hb12.size)⟩
end Go.Proofs.YthhhiiagppckhaaGreatDoor
end
