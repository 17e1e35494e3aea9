/- The walk of the document's Check of a message; conditions: none beyond its hypotheses. -/
import Derived.Test.YthhhiiagppckhaaGreatDoorMgMs13
set_option linter.unusedSimpArgs false
set_option linter.unusedVariables false
section
namespace Go.Proofs.YthhhiiagppckhaaGreatDoor
open Go.RowKit Go.Proofs.U
set_option linter.unusedVariables false

set_option maxHeartbeats 2000000 in
theorem rhas_no (k : Int) (h : k < 1 ∨ 16 < k) (w : World) : Calls Tryz.prog 13 #[.int .i64 k] w fun e w' => e = .returned (.string (strOf [])) ∧ w' = w := by
  have e1 : (k == 1) = false := by rw [beq_eq_false_iff_ne]; omega
  have e2 : (k == 2) = false := by rw [beq_eq_false_iff_ne]; omega
  have e3 : (k == 3) = false := by rw [beq_eq_false_iff_ne]; omega
  have e4 : (k == 4) = false := by rw [beq_eq_false_iff_ne]; omega
  have e5 : (k == 5) = false := by rw [beq_eq_false_iff_ne]; omega
  have e6 : (k == 6) = false := by rw [beq_eq_false_iff_ne]; omega
  have e7 : (k == 7) = false := by rw [beq_eq_false_iff_ne]; omega
  have e8 : (k == 8) = false := by rw [beq_eq_false_iff_ne]; omega
  have e9 : (k == 9) = false := by rw [beq_eq_false_iff_ne]; omega
  have e10 : (k == 10) = false := by rw [beq_eq_false_iff_ne]; omega
  have e11 : (k == 11) = false := by rw [beq_eq_false_iff_ne]; omega
  have e12 : (k == 12) = false := by rw [beq_eq_false_iff_ne]; omega
  have e13 : (k == 13) = false := by rw [beq_eq_false_iff_ne]; omega
  have e14 : (k == 14) = false := by rw [beq_eq_false_iff_ne]; omega
  have e15 : (k == 15) = false := by rw [beq_eq_false_iff_ne]; omega
  have e16 : (k == 16) = false := by rw [beq_eq_false_iff_ne]; omega
  go_enter Tryz.func13, Tryz.ntmps13
  go_wp2_with fail
  go_ret
  exact ⟨rfl, rfl⟩
theorem rhas_any (k : Int) (w : World) : Calls Tryz.prog 13 #[.int .i64 k] w fun e w' => e = .returned (.string (strOf (Ms.has k))) ∧ w' = w := by
  by_cases h : k < 1 ∨ 16 < k
  · have e : Ms.has k = [] := hasN_none _ (by omega)
    rw [e]; exact rhas_no k h w
  · obtain ⟨n, rfl⟩ : ∃ n : Nat, k = (n : Int) := ⟨k.toNat, by omega⟩
    exact rhas_in ⟨n, by omega⟩ w
theorem any_take {α : Type} {l : List α} {k : Nat} {x : α} {p : α → Bool} (h : l[k]? = some x) (h1 : (l.take k).any p = false) (h2 : p x = false) : (l.take (k + 1)).any p = false := by
  rw [List.take_add_one, h, List.any_append, h1]; simp [h2]
set_option maxRecDepth 100000 in
set_option maxHeartbeats 8000000 in
theorem rcheck_any (B0 : Nat) (m : Ms.Msg) (v : Value) (w : World) (h : MsgV w B0 m v) (hr : m.rows.length ≤ 140737488355328) :
    Calls Tryz.prog 4 #[v] w fun e w' => e = .returned (.int .i64 (Ms.check m : Int)) ∧ Below w.heap.size w w' := by
  obtain ⟨A, c, A2, c2, rfl, ha1, ha2, ha3, ha4⟩ := h
  obtain ⟨R, hR⟩ : ∃ R, R = Ms.refCheck m := ⟨_, rfl⟩
  rw [← Ms.refCheck_eq, ← hR]
  obtain ⟨ls, hls'⟩ : ∃ ls, ls = Ms.has m.kind := ⟨_, rfl⟩
  have hls : ls.length ≤ 1000000 := by rw [hls']; exact Nat.le_trans (hasN_short _) (by decide)
  unfold Ms.refCheck at hR
  rw [← hls'] at hR
  have hhas := fun W => rhas_any m.kind W
  rw [← hls'] at hhas
  have hw1 : ∃ w1, w1 = (w.alloc (.cells (mCells m A c A2 c2) 27)) := ⟨_, rfl⟩
  have hk1 : Blk (w.alloc (.cells (mCells m A c A2 c2) 27)) w.heap.size 27 (mCells m A c A2 c2) := Blk.new w _ _
  have hb1 := alloc_b w (.cells (mCells m A c A2 c2) 27)
  simp only [mCells] at hw1 hb1 hk1 ⊢
  have HR := Lib.hid hR
  have HLS := Lib.hid hls'
  clear hR hls'
  by_cases h0 : ls = []
  · subst h0
    have hPe : ([] : List UInt8).isEmpty = true := rfl
    go_enter Tryz.func4, Tryz.ntmps4
    go_wp2_with fail
    obtain ⟨w1, hw1⟩ := hw1
    rw [← hw1] at hb1 hk1 ⊢
    clear hw1
    refine (hhas _).mono ?_
    rintro e wq ⟨rfl, hwq⟩
    have hwq2 := hwq.symm
    clear hwq
    subst hwq2
    obtain ⟨x0, x1, x2, x3, x4, x5, x6, x7, x8, x9, x10, x11, x12, x13, x14, x15⟩ := msg_cells (A := A) (c := c) (A2 := A2) (c2 := c2) hk1
    go_wp2_with fail
    go_ret
    have hE : R = 2 := by rw [HR.out, if_pos (by simp)]
    subst hE
    exact ⟨rfl, hb1⟩
  · have hPe : ls.isEmpty = false := by simpa using h0
    have H0 := Lib.hid h0
    clear h0
    obtain ⟨o0, ho0⟩ : ∃ b, b = Ms.outB ls 112 m.proto 255 := ⟨_, rfl⟩
    have Ho0 := Lib.hid ho0
    clear ho0
    have k0 : ∀ W, Calls Tryz.prog 14 #[.string (strOf ls), .int .u8 112, .int .i64 m.proto, .int .i64 255] W (fun e w2 => e = .returned (.bool o0) ∧ w2 = W) := fun W => by rw [Ho0.out]; exact rout_any ls 112 m.proto 255 hls W
    obtain ⟨o1, ho1⟩ : ∃ b, b = Ms.outB ls 119 m.what 2 := ⟨_, rfl⟩
    have Ho1 := Lib.hid ho1
    clear ho1
    have k1 : ∀ W, Calls Tryz.prog 14 #[.string (strOf ls), .int .u8 119, .int .i64 m.what, .int .i64 2] W (fun e w2 => e = .returned (.bool o1) ∧ w2 = W) := fun W => by rw [Ho1.out]; exact rout_any ls 119 m.what 2 hls W
    obtain ⟨o2, ho2⟩ : ∃ b, b = Ms.outB ls 111 m.offset 8300 := ⟨_, rfl⟩
    have Ho2 := Lib.hid ho2
    clear ho2
    have k2 : ∀ W, Calls Tryz.prog 14 #[.string (strOf ls), .int .u8 111, .int .i64 m.offset, .int .i64 8300] W (fun e w2 => e = .returned (.bool o2) ∧ w2 = W) := fun W => by rw [Ho2.out]; exact rout_any ls 111 m.offset 8300 hls W
    obtain ⟨o3, ho3⟩ : ∃ b, b = Ms.outB ls 84 m.total 8300 := ⟨_, rfl⟩
    have Ho3 := Lib.hid ho3
    clear ho3
    have k3 : ∀ W, Calls Tryz.prog 14 #[.string (strOf ls), .int .u8 84, .int .i64 m.total, .int .i64 8300] W (fun e w2 => e = .returned (.bool o3) ∧ w2 = W) := fun W => by rw [Ho3.out]; exact rout_any ls 84 m.total 8300 hls W
    obtain ⟨o4, ho4⟩ : ∃ b, b = Ms.outB ls 122 m.size 4096 := ⟨_, rfl⟩
    have Ho4 := Lib.hid ho4
    clear ho4
    have k4 : ∀ W, Calls Tryz.prog 14 #[.string (strOf ls), .int .u8 122, .int .i64 m.size, .int .i64 4096] W (fun e w2 => e = .returned (.bool o4) ∧ w2 = W) := fun W => by rw [Ho4.out]; exact rout_any ls 122 m.size 4096 hls W
    obtain ⟨o5, ho5⟩ : ∃ b, b = Ms.outB ls 99 m.code 99 := ⟨_, rfl⟩
    have Ho5 := Lib.hid ho5
    clear ho5
    have k5 : ∀ W, Calls Tryz.prog 14 #[.string (strOf ls), .int .u8 99, .int .i64 m.code, .int .i64 99] W (fun e w2 => e = .returned (.bool o5) ∧ w2 = W) := fun W => by rw [Ho5.out]; exact rout_any ls 99 m.code 99 hls W
    have hbad : Ms.refBad ls m = (o0 || o1 || o2 || o3 || o4 || o5) := by rw [Ho0.out, Ho1.out, Ho2.out, Ho3.out, Ho4.out, Ho5.out]; rfl
    have HB := Lib.hid hbad
    clear hbad Ho0 Ho1 Ho2 Ho3 Ho4 Ho5
    cases o0 with
    | true =>
      go_enter Tryz.func4, Tryz.ntmps4
      go_wp2_with fail
      obtain ⟨w1, hw1⟩ := hw1
      rw [← hw1] at hb1 hk1 ⊢
      clear hw1
      refine (hhas _).mono ?_
      rintro e wq ⟨rfl, hwq⟩
      have hwq2 := hwq.symm
      clear hwq
      subst hwq2
      obtain ⟨x0, x1, x2, x3, x4, x5, x6, x7, x8, x9, x10, x11, x12, x13, x14, x15⟩ := msg_cells (A := A) (c := c) (A2 := A2) (c2 := c2) hk1
      go_wp2_with (go_at_call 14; (first | with_reducible refine (k0 _).mono ?_); rintro e wq ⟨rfl, hwq⟩; have hwq2 := hwq.symm; clear hwq; subst hwq2)
      go_ret
      have hE : R = 2 := by rw [HR.out, if_pos (.inr (by rw [HB.out]; rfl))]
      subst hE
      exact ⟨rfl, hb1⟩
    | false =>
      cases o1 with
      | true =>
        go_enter Tryz.func4, Tryz.ntmps4
        go_wp2_with fail
        obtain ⟨w1, hw1⟩ := hw1
        rw [← hw1] at hb1 hk1 ⊢
        clear hw1
        refine (hhas _).mono ?_
        rintro e wq ⟨rfl, hwq⟩
        have hwq2 := hwq.symm
        clear hwq
        subst hwq2
        obtain ⟨x0, x1, x2, x3, x4, x5, x6, x7, x8, x9, x10, x11, x12, x13, x14, x15⟩ := msg_cells (A := A) (c := c) (A2 := A2) (c2 := c2) hk1
        go_wp2_with (go_at_call 14; (first | with_reducible refine (k0 _).mono ?_ | with_reducible refine (k1 _).mono ?_); rintro e wq ⟨rfl, hwq⟩; have hwq2 := hwq.symm; clear hwq; subst hwq2)
        go_ret
        have hE : R = 2 := by rw [HR.out, if_pos (.inr (by rw [HB.out]; rfl))]
        subst hE
        exact ⟨rfl, hb1⟩
      | false =>
        cases o2 with
        | true =>
          go_enter Tryz.func4, Tryz.ntmps4
          go_wp2_with fail
          obtain ⟨w1, hw1⟩ := hw1
          rw [← hw1] at hb1 hk1 ⊢
          clear hw1
          refine (hhas _).mono ?_
          rintro e wq ⟨rfl, hwq⟩
          have hwq2 := hwq.symm
          clear hwq
          subst hwq2
          obtain ⟨x0, x1, x2, x3, x4, x5, x6, x7, x8, x9, x10, x11, x12, x13, x14, x15⟩ := msg_cells (A := A) (c := c) (A2 := A2) (c2 := c2) hk1
          go_wp2_with (go_at_call 14; (first | with_reducible refine (k0 _).mono ?_ | with_reducible refine (k1 _).mono ?_ | with_reducible refine (k2 _).mono ?_); rintro e wq ⟨rfl, hwq⟩; have hwq2 := hwq.symm; clear hwq; subst hwq2)
          go_ret
          have hE : R = 2 := by rw [HR.out, if_pos (.inr (by rw [HB.out]; rfl))]
          subst hE
          exact ⟨rfl, hb1⟩
        | false =>
          cases o3 with
          | true =>
            go_enter Tryz.func4, Tryz.ntmps4
            go_wp2_with fail
            obtain ⟨w1, hw1⟩ := hw1
            rw [← hw1] at hb1 hk1 ⊢
            clear hw1
            refine (hhas _).mono ?_
            rintro e wq ⟨rfl, hwq⟩
            have hwq2 := hwq.symm
            clear hwq
            subst hwq2
            obtain ⟨x0, x1, x2, x3, x4, x5, x6, x7, x8, x9, x10, x11, x12, x13, x14, x15⟩ := msg_cells (A := A) (c := c) (A2 := A2) (c2 := c2) hk1
            go_wp2_with (go_at_call 14; (first | with_reducible refine (k0 _).mono ?_ | with_reducible refine (k1 _).mono ?_ | with_reducible refine (k2 _).mono ?_ | with_reducible refine (k3 _).mono ?_); rintro e wq ⟨rfl, hwq⟩; have hwq2 := hwq.symm; clear hwq; subst hwq2)
            go_ret
            have hE : R = 2 := by rw [HR.out, if_pos (.inr (by rw [HB.out]; rfl))]
            subst hE
            exact ⟨rfl, hb1⟩
          | false =>
            cases o4 with
            | true =>
              go_enter Tryz.func4, Tryz.ntmps4
              go_wp2_with fail
              obtain ⟨w1, hw1⟩ := hw1
              rw [← hw1] at hb1 hk1 ⊢
              clear hw1
              refine (hhas _).mono ?_
              rintro e wq ⟨rfl, hwq⟩
              have hwq2 := hwq.symm
              clear hwq
              subst hwq2
              obtain ⟨x0, x1, x2, x3, x4, x5, x6, x7, x8, x9, x10, x11, x12, x13, x14, x15⟩ := msg_cells (A := A) (c := c) (A2 := A2) (c2 := c2) hk1
              go_wp2_with (go_at_call 14; (first | with_reducible refine (k0 _).mono ?_ | with_reducible refine (k1 _).mono ?_ | with_reducible refine (k2 _).mono ?_ | with_reducible refine (k3 _).mono ?_ | with_reducible refine (k4 _).mono ?_); rintro e wq ⟨rfl, hwq⟩; have hwq2 := hwq.symm; clear hwq; subst hwq2)
              go_ret
              have hE : R = 2 := by rw [HR.out, if_pos (.inr (by rw [HB.out]; rfl))]
              subst hE
              exact ⟨rfl, hb1⟩
            | false =>
              cases o5 with
              | true =>
                go_enter Tryz.func4, Tryz.ntmps4
                go_wp2_with fail
                obtain ⟨w1, hw1⟩ := hw1
                rw [← hw1] at hb1 hk1 ⊢
                clear hw1
                refine (hhas _).mono ?_
                rintro e wq ⟨rfl, hwq⟩
                have hwq2 := hwq.symm
                clear hwq
                subst hwq2
                obtain ⟨x0, x1, x2, x3, x4, x5, x6, x7, x8, x9, x10, x11, x12, x13, x14, x15⟩ := msg_cells (A := A) (c := c) (A2 := A2) (c2 := c2) hk1
                go_wp2_with (go_at_call 14; (first | with_reducible refine (k0 _).mono ?_ | with_reducible refine (k1 _).mono ?_ | with_reducible refine (k2 _).mono ?_ | with_reducible refine (k3 _).mono ?_ | with_reducible refine (k4 _).mono ?_ | with_reducible refine (k5 _).mono ?_); rintro e wq ⟨rfl, hwq⟩; have hwq2 := hwq.symm; clear hwq; subst hwq2)
                go_ret
                have hE : R = 2 := by rw [HR.out, if_pos (.inr (by rw [HB.out]; rfl))]
                subst hE
                exact ⟨rfl, hb1⟩
              | false =>
                go_enter Tryz.func4, Tryz.ntmps4
                go_wp2_with fail
                obtain ⟨w1, hw1⟩ := hw1
                rw [← hw1] at hb1 hk1 ⊢
                clear hw1
                refine (hhas _).mono ?_
                rintro e wq ⟨rfl, hwq⟩
                have hwq2 := hwq.symm
                clear hwq
                subst hwq2
                obtain ⟨x0, x1, x2, x3, x4, x5, x6, x7, x8, x9, x10, x11, x12, x13, x14, x15⟩ := msg_cells (A := A) (c := c) (A2 := A2) (c2 := c2) hk1
                have hsz := str_size m.path
                have HNB : Hid (¬ (ls = [] ∨ Ms.refBad ls m = true)) := Lib.hid (by rw [HB.out]; rintro (h | h); exact H0.out h; cases h)
                obtain ⟨q0, hq0⟩ : ∃ b, b = Ms.outB ls 80 (m.path.length : Int) 96 := ⟨_, rfl⟩
                have Hq0 := Lib.hid hq0
                clear hq0
                have l0 : ∀ W, Calls Tryz.prog 14 #[.string (strOf ls), .int .u8 80, .int .i64 (m.path.length : Int), .int .i64 96] W (fun e w2 => e = .returned (.bool q0) ∧ w2 = W) := fun W => by rw [Hq0.out]; exact rout_any ls 80 (m.path.length : Int) 96 hls W
                obtain ⟨q1, hq1⟩ : ∃ b, b = Ms.outB ls 100 (m.data.length : Int) 200 := ⟨_, rfl⟩
                have Hq1 := Lib.hid hq1
                clear hq1
                have l1 : ∀ W, Calls Tryz.prog 14 #[.string (strOf ls), .int .u8 100, .int .i64 (m.data.length : Int), .int .i64 200] W (fun e w2 => e = .returned (.bool q1) ∧ w2 = W) := fun W => by rw [Hq1.out]; exact rout_any ls 100 (m.data.length : Int) 200 hls W
                obtain ⟨q2, hq2⟩ : ∃ b, b = Ms.outB ls 114 (m.rows.length : Int) 8 := ⟨_, rfl⟩
                have Hq2 := Lib.hid hq2
                clear hq2
                have l2 : ∀ W, Calls Tryz.prog 14 #[.string (strOf ls), .int .u8 114, .int .i64 (m.rows.length : Int), .int .i64 8] W (fun e w2 => e = .returned (.bool q2) ∧ w2 = W) := fun W => by rw [Hq2.out]; exact rout_any ls 114 (m.rows.length : Int) 8 hls W
                have hlong : Ms.refLong ls m = (q0 || q1 || q2) := by rw [Hq0.out, Hq1.out, Hq2.out]; rfl
                have HL := Lib.hid hlong
                clear hlong Hq0 Hq1 Hq2
                go_wp2_with (go_at_call 14; (first | with_reducible refine (k0 _).mono ?_ | with_reducible refine (k1 _).mono ?_ | with_reducible refine (k2 _).mono ?_ | with_reducible refine (k3 _).mono ?_ | with_reducible refine (k4 _).mono ?_ | with_reducible refine (k5 _).mono ?_); rintro e wq ⟨rfl, hwq⟩; have hwq2 := hwq.symm; clear hwq; subst hwq2)
                go_loopg [4] m.rows.length (fun r i wr => ∃ k : Nat, r + k = m.rows.length ∧ i = .int .i64 k ∧ (m.rows.take k).any (Ms.rowOut ls) = false ∧ wr = w1)
                case atStart => exact ⟨0, by omega, rfl, rfl, rfl⟩
                case round =>
                  obtain ⟨k, hgk, rfl, hp, rfl⟩ := hrel
                  have HP := Lib.hid hp
                  clear hp
                  by_cases hlt : k < m.rows.length
                  · obtain ⟨x, hx⟩ : ∃ x, m.rows[k]? = some x := ⟨_, List.getElem?_eq_getElem hlt⟩
                    obtain ⟨b1, oo, rfl, hbl1, r1⟩ := RwS.at_ (ha3.kept (kept_below hb1)) hx
                    have p1 := r1 1 _ rfl
                    have p4 := r1 4 _ rfl
                    have HXX := Lib.hid hx
                    clear r1 hx
                    obtain ⟨s0, hs0⟩ : ∃ b, b = Ms.outB ls 114 x.kind 2 := ⟨_, rfl⟩
                    have Hs0 := Lib.hid hs0
                    clear hs0
                    obtain ⟨s1, hs1⟩ : ∃ b, b = Ms.outB ls 114 x.size 4096 := ⟨_, rfl⟩
                    have Hs1 := Lib.hid hs1
                    clear hs1
                    have m0 : ∀ W, Calls Tryz.prog 14 #[.string (strOf ls), .int .u8 114, .int .i64 x.kind, .int .i64 2] W (fun e w2 => e = .returned (.bool s0) ∧ w2 = W) := fun W => by rw [Hs0.out]; exact rout_any ls 114 x.kind 2 hls W
                    have m1 : ∀ W, Calls Tryz.prog 14 #[.string (strOf ls), .int .u8 114, .int .i64 x.size, .int .i64 4096] W (fun e w2 => e = .returned (.bool s1) ∧ w2 = W) := fun W => by rw [Hs1.out]; exact rout_any ls 114 x.size 4096 hls W
                    have hro : Ms.rowOut ls x = (s0 || s1) := by rw [Hs0.out, Hs1.out]; rfl
                    have HRO := Lib.hid hro
                    clear hro Hs0 Hs1
                    cases s0 with
                    | true =>
                      go_wp2_with (go_at_call 14; (first | with_reducible refine (m0 _).mono ?_ | with_reducible refine (m1 _).mono ?_); rintro e wq ⟨rfl, hwq⟩; have hwq2 := hwq.symm; clear hwq; subst hwq2)
                      go_ret
                      have hE : R = 2 := by rw [HR.out, if_neg HNB.out, if_pos (List.any_eq_true.2 ⟨x, List.mem_of_getElem? HXX.out, by rw [HRO.out]; rfl⟩)]
                      subst hE
                      exact ⟨rfl, hb1⟩
                    | false =>
                      cases s1 with
                      | true =>
                        go_wp2_with (go_at_call 14; (first | with_reducible refine (m0 _).mono ?_ | with_reducible refine (m1 _).mono ?_); rintro e wq ⟨rfl, hwq⟩; have hwq2 := hwq.symm; clear hwq; subst hwq2)
                        go_ret
                        have hE : R = 2 := by rw [HR.out, if_neg HNB.out, if_pos (List.any_eq_true.2 ⟨x, List.mem_of_getElem? HXX.out, by rw [HRO.out]; rfl⟩)]
                        subst hE
                        exact ⟨rfl, hb1⟩
                      | false =>
                        go_wp2_with (go_at_call 14; (first | with_reducible refine (m0 _).mono ?_ | with_reducible refine (m1 _).mono ?_); rintro e wq ⟨rfl, hwq⟩; have hwq2 := hwq.symm; clear hwq; subst hwq2)
                        go_roundg (gk - 1)
                        case measure => omega
                        case rel => exact ⟨k + 1, by omega, by go_num, any_take HXX.out HP.out HRO.out, rfl⟩
                  · have hany := HP.out
                    rw [List.take_of_length_le (by omega)] at hany
                    have HNR : Hid (¬ m.rows.any (Ms.rowOut ls) = true) := Lib.hid (by rw [hany]; decide)
                    clear hany HP
                    cases q0 with
                    | true =>
                      go_wp2_with (go_at_call 14; (first | with_reducible refine (l0 _).mono ?_ | with_reducible refine (l1 _).mono ?_ | with_reducible refine (l2 _).mono ?_); rintro e wq ⟨rfl, hwq⟩; have hwq2 := hwq.symm; clear hwq; subst hwq2)
                      go_ret
                      have hE : R = 13 := by rw [HR.out, if_neg HNB.out, if_neg HNR.out, if_pos (by rw [HL.out]; rfl)]
                      subst hE
                      exact ⟨rfl, hb1⟩
                    | false =>
                      cases q1 with
                      | true =>
                        go_wp2_with (go_at_call 14; (first | with_reducible refine (l0 _).mono ?_ | with_reducible refine (l1 _).mono ?_ | with_reducible refine (l2 _).mono ?_); rintro e wq ⟨rfl, hwq⟩; have hwq2 := hwq.symm; clear hwq; subst hwq2)
                        go_ret
                        have hE : R = 13 := by rw [HR.out, if_neg HNB.out, if_neg HNR.out, if_pos (by rw [HL.out]; rfl)]
                        subst hE
                        exact ⟨rfl, hb1⟩
                      | false =>
                        cases q2 with
                        | true =>
                          go_wp2_with (go_at_call 14; (first | with_reducible refine (l0 _).mono ?_ | with_reducible refine (l1 _).mono ?_ | with_reducible refine (l2 _).mono ?_); rintro e wq ⟨rfl, hwq⟩; have hwq2 := hwq.symm; clear hwq; subst hwq2)
                          go_ret
                          have hE : R = 13 := by rw [HR.out, if_neg HNB.out, if_neg HNR.out, if_pos (by rw [HL.out]; rfl)]
                          subst hE
                          exact ⟨rfl, hb1⟩
                        | false =>
                          have HNL : Hid (¬ Ms.refLong ls m = true) := Lib.hid (by rw [HL.out]; decide)
                          go_wp2_with (go_at_call 14; (first | with_reducible refine (l0 _).mono ?_ | with_reducible refine (l1 _).mono ?_ | with_reducible refine (l2 _).mono ?_); rintro e wq ⟨rfl, hwq⟩; have hwq2 := hwq.symm; clear hwq; subst hwq2)
                          go_loopg [5] m.rows.length (fun r i w9 => ∃ k : Nat, r + k = m.rows.length ∧ i = .int .i64 k ∧ (m.rows.take k).any (fun x => Ms.outB ls 114 x.path.length 96) = false ∧ w9 = wr)
                          case atStart => exact ⟨0, by omega, rfl, rfl, rfl⟩
                          case round =>
                            obtain ⟨k, hgk, rfl, hp, rfl⟩ := hrel
                            have HP := Lib.hid hp
                            clear hp
                            by_cases hlt : k < m.rows.length
                            · obtain ⟨x, hx⟩ : ∃ x, m.rows[k]? = some x := ⟨_, List.getElem?_eq_getElem hlt⟩
                              obtain ⟨b1, oo, rfl, hbl1, r1⟩ := RwS.at_ (ha3.kept (kept_below hb1)) hx
                              have p0 := r1 0 _ rfl
                              rw [Nat.add_zero] at p0
                              have HXX := Lib.hid hx
                              clear r1 hx
                              have hsx := str_size x.path
                              obtain ⟨s0, hs0⟩ : ∃ b, b = Ms.outB ls 114 x.path.length 96 := ⟨_, rfl⟩
                              have Hs0 := Lib.hid hs0
                              clear hs0
                              have m0 : ∀ W, Calls Tryz.prog 14 #[.string (strOf ls), .int .u8 114, .int .i64 (x.path.length : Int), .int .i64 96] W (fun e w2 => e = .returned (.bool s0) ∧ w2 = W) := fun W => by rw [Hs0.out]; exact rout_any ls 114 (x.path.length : Int) 96 hls W
                              cases s0 with
                              | true =>
                                go_wp2_with (go_at_call 14; (first | with_reducible refine (m0 _).mono ?_); rintro e wq ⟨rfl, hwq⟩; have hwq2 := hwq.symm; clear hwq; subst hwq2)
                                go_ret
                                have hE : R = 13 := by rw [HR.out, if_neg HNB.out, if_neg HNR.out, if_neg HNL.out, if_pos (List.any_eq_true.2 ⟨x, List.mem_of_getElem? HXX.out, Hs0.out.symm⟩)]
                                subst hE
                                exact ⟨rfl, hb1⟩
                              | false =>
                                go_wp2_with (go_at_call 14; (first | with_reducible refine (m0 _).mono ?_); rintro e wq ⟨rfl, hwq⟩; have hwq2 := hwq.symm; clear hwq; subst hwq2)
                                go_roundg (gk - 1)
                                case measure => omega
                                case rel => exact ⟨k + 1, by omega, by go_num, any_take HXX.out HP.out Hs0.out.symm, rfl⟩
                            · have hany := HP.out
                              rw [List.take_of_length_le (by omega)] at hany
                              go_wp2_with fail
                              go_ret
                              have hE : R = 0 := by rw [HR.out, if_neg HNB.out, if_neg HNR.out, if_neg HNL.out, if_neg (by rw [hany]; decide)]
                              subst hE
                              exact ⟨rfl, hb1⟩
end Go.Proofs.YthhhiiagppckhaaGreatDoor
end
