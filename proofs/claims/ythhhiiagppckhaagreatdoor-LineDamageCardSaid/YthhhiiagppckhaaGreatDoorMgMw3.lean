/- The walk of the document's part of a message; conditions: none beyond its hypotheses. -/
import Derived.Test.YthhhiiagppckhaaGreatDoorMgMw2
import Derived.Test.YthhhiiagppckhaaGreatDoorMgGa10
set_option linter.unusedSimpArgs false
set_option linter.unusedVariables false
section
namespace Go.Proofs.YthhhiiagppckhaaGreatDoor
open Go.RowKit Go.Proofs.U
set_option linter.unusedVariables false

theorem own_up {w w1 w2 : World} {l : List UInt8} {e : Ending} (hb : Below w.heap.size w w1) (h : OwnRet 5 w1 l.length l e w2) : OwnRet 5 w l.length l e w2 := by
  obtain ⟨A, c, he, ho, hb2⟩ := h
  exact ⟨A, c, he, World.ownsRow.mono ho hb.size, hb.trans (hb2.mono hb.size)⟩
theorem rows_all {m : Ms.Msg} (hb : Ms.bnd 114 m = true) (hl : Ms.len 114 m = true) : m.rows.length ≤ 8 ∧ ∀ x ∈ m.rows, x.path.length ≤ 96 ∧ (0 ≤ x.kind ∧ x.kind ≤ 2) ∧ (0 ≤ x.size ∧ x.size ≤ 4096) := by
  have hbn : (m.rows.all fun x => Ms.inb x.kind 2 && Ms.inb x.size 4096) = true := hb
  have hln : (decide (m.rows.length ≤ 8) && m.rows.all fun x => decide (x.path.length ≤ 96)) = true := hl
  rw [Bool.and_eq_true, decide_eq_true_eq, List.all_eq_true] at hln
  rw [List.all_eq_true] at hbn
  refine ⟨hln.1, fun x hx => ?_⟩
  have h1 := hbn x hx
  rw [Bool.and_eq_true] at h1
  exact ⟨of_decide_eq_true (hln.2 x hx), of_decide_eq_true h1.1, of_decide_eq_true h1.2⟩
/-- what the rows' round keeps: the message, the bytes -/
structure PS (w0 w : World) (mc : Array Value) (A : Option Addr) (n c : Nat) (bs : List UInt8) : Prop where
  msg : Blk w w0.heap.size 27 mc
  own : Own w w0.heap.size 5 A n c bs
  bel : Below w0.heap.size w0 w
theorem PS.below {w0 w w' : World} {mc : Array Value} {A : Option Addr} {n c : Nat} {bs : List UInt8} (h : PS w0 w mc A n c bs) (hb : Below w.heap.size w w') : PS w0 w' mc A n c bs :=
  ⟨h.msg.stay hb, h.own.below hb, h.bel.trans (hb.mono h.bel.size)⟩
theorem PS.app {w0 w w' : World} {mc : Array Value} {A A2 : Option Addr} {n n2 c c2 : Nat} {bs bs2 : List UInt8} (h : PS w0 w mc A n c bs) (hg : w.grownBy w' (Value.slice A n c).ownBlock) (ho : Own w' w0.heap.size 5 A2 n2 c2 bs2) : PS w0 w' mc A2 n2 c2 bs2 :=
  ⟨h.msg.grown hg (h.msg.row_ne h.own (by decide)), ho, below_of_grown h.bel h.bel.size h.own (Nat.le_refl _) hg⟩
theorem PS.row {w0 w w' : World} {mc cs : Array Value} {A : Option Addr} {n c q : Nat} {bs : List UInt8} (h : PS w0 w mc A n c bs) (hg : w.grownBy w' (Value.slice A n c).ownBlock) (hq : Blk w q 52 cs) : Blk w' q 52 cs :=
  hq.grown hg (hq.row_ne h.own (by decide))
set_option maxRecDepth 100000 in
set_option maxHeartbeats 8000000 in
theorem rpart_any (B0 : Nat) (m : Ms.Msg) (v : Value) (cc : UInt8) (hca : cc ∈ Ms.alpha) (hbc : Ms.bnd cc m = true) (hlc : Ms.len cc m = true) (w : World) (h : MsgV w B0 m v) (hwf : Ms.Wf m) :
    Calls Tryz.prog 29 #[v, .int .u8 (cc.toNat : Int)] w (OwnRet 5 w (Ms.part cc m).length (Ms.part cc m)) := by
  obtain ⟨A, c, A2, c2, rfl, ha1, ha2, ha3, ha4⟩ := h
  have hw1 : ∃ w1, w1 = (w.alloc (.cells (mCells m A c A2 c2) 27)) := ⟨_, rfl⟩
  have hk1 : Blk (w.alloc (.cells (mCells m A c A2 c2) 27)) w.heap.size 27 (mCells m A c A2 c2) := Blk.new w _ _
  have hb1 := alloc_b w (.cells (mCells m A c A2 c2) 27)
  simp only [mCells] at hw1 hb1 hk1 ⊢
  obtain ⟨fl, hfl⟩ : ∃ fl, fl = m.flag := ⟨_, rfl⟩
  rw [← hfl] at hw1 hb1 hk1 ⊢
  have HFL := Lib.hid hfl
  clear hfl
  have HWF := Lib.hid hwf
  have HBL := Lib.hid (And.intro hbc hlc)
  clear hwf hbc hlc
  simp only [Ms.alpha, List.mem_cons, List.not_mem_nil, or_false] at hca
  rcases hca with rfl | rfl | rfl | rfl | rfl | rfl | rfl | rfl | rfl | rfl | rfl | rfl | rfl | rfl | rfl
  · have hin : 0 ≤ m.proto ∧ m.proto ≤ 255 := of_decide_eq_true HBL.out.1
    obtain ⟨p, hp⟩ : ∃ p : Nat, m.proto = (p : Int) := ⟨m.proto.toNat, by omega⟩
    have hlt : p < 18446744073709551616 := by omega
    have hple : p ≤ 255 := by omega
    have HQ : Ms.part 112 m = Gr.numB p := by
      have e : Ms.part 112 m = Gr.numB m.proto.toNat := rfl
      rw [hp] at e; exact e
    rw [HQ]
    rw [hp] at hb1 hk1 hw1 ⊢
    clear HQ hp
    obtain ⟨w1, hw1⟩ := hw1
    rw [← hw1] at hb1 hk1
    have hN := rnum_any p hlt w1
    cases fl
    all_goals
      go_enter Tryz.func29, Tryz.ntmps29
      go_wp2_with fail
      rw [← hw1]
      refine hN.mono ?_
      rintro e w2 hret
      have hret2 := own_up hb1 hret
      obtain ⟨A3, c3, rfl, hown3, hb3⟩ := hret
      go_wp2_with fail
      go_ret
      exact hret2
  · have hlt := HWF.out.session
    have HQ : Ms.part 115 m = Gr.numB m.session := rfl
    rw [HQ]
    obtain ⟨p, hp⟩ : ∃ p, p = m.session := ⟨_, rfl⟩
    rw [← hp] at hlt hb1 hk1 hw1 ⊢
    clear HQ hp
    obtain ⟨w1, hw1⟩ := hw1
    rw [← hw1] at hb1 hk1
    have hN := rnum_any p hlt w1
    cases fl
    all_goals
      go_enter Tryz.func29, Tryz.ntmps29
      go_wp2_with fail
      rw [← hw1]
      refine hN.mono ?_
      rintro e w2 hret
      have hret2 := own_up hb1 hret
      obtain ⟨A3, c3, rfl, hown3, hb3⟩ := hret
      go_wp2_with fail
      go_ret
      exact hret2
  · have hlt := HWF.out.n
    have HQ : Ms.part 110 m = Gr.numB m.n := rfl
    rw [HQ]
    obtain ⟨p, hp⟩ : ∃ p, p = m.n := ⟨_, rfl⟩
    rw [← hp] at hlt hb1 hk1 hw1 ⊢
    clear HQ hp
    obtain ⟨w1, hw1⟩ := hw1
    rw [← hw1] at hb1 hk1
    have hN := rnum_any p hlt w1
    cases fl
    all_goals
      go_enter Tryz.func29, Tryz.ntmps29
      go_wp2_with fail
      rw [← hw1]
      refine hN.mono ?_
      rintro e w2 hret
      have hret2 := own_up hb1 hret
      obtain ⟨A3, c3, rfl, hown3, hb3⟩ := hret
      go_wp2_with fail
      go_ret
      exact hret2
  · have HQ : Ms.part 102 m = Gr.numB (if m.flag = true then 1 else 0) := rfl
    rw [HQ, ← HFL.out]
    clear HQ
    obtain ⟨w1, hw1⟩ := hw1
    rw [← hw1] at hb1 hk1
    cases fl with
    | true =>
      have hN := rnum_any 1 (by decide) w1
      go_enter Tryz.func29, Tryz.ntmps29
      go_wp2_with fail
      rw [← hw1]
      refine hN.mono ?_
      rintro e w2 hret
      have hret2 := own_up hb1 hret
      obtain ⟨A3, c3, rfl, hown3, hb3⟩ := hret
      go_wp2_with fail
      go_ret
      exact hret2
    | false =>
      have hN := rnum_any 0 (by decide) w1
      go_enter Tryz.func29, Tryz.ntmps29
      go_wp2_with fail
      rw [← hw1]
      refine hN.mono ?_
      rintro e w2 hret
      have hret2 := own_up hb1 hret
      obtain ⟨A3, c3, rfl, hown3, hb3⟩ := hret
      go_wp2_with fail
      go_ret
      exact hret2
  · have HQ : Ms.part 80 m = Gr.numB m.path.length ++ m.path := rfl
    have hle : m.path.length ≤ 96 := of_decide_eq_true HBL.out.2
    rw [HQ]
    clear HQ
    obtain ⟨w1, hw1⟩ := hw1
    obtain ⟨cb, wb, kc, hbb, hbd, hbz⟩ := conv_str w1 m.path
    rw [hw1] at kc
    rw [← hw1] at hb1 hk1
    have hN := rtextb_any (some ⟨w1.heap.size, 0, none⟩) m.path.length cb m.path wb hbd (by omega)
    have hz : w1.heap.size = w.heap.size + 1 := by rw [hw1]; simp
    rw [hz] at hN
    obtain ⟨X, hX⟩ : ∃ X, X = Gr.numB m.path.length ++ m.path := ⟨_, rfl⟩
    rw [← hX] at hN ⊢
    clear hX
    cases fl
    all_goals
      go_enter Tryz.func29, Tryz.ntmps29
      go_wp2_with fail
      refine hN.mono ?_
      rintro e w2 hret
      have hret2 := own_up (hb1.trans (hbb.mono hb1.size)) hret
      obtain ⟨A3, c3, rfl, hown3, hb3⟩ := hret
      go_wp2_with fail
      go_ret
      exact hret2
  · have hin : 0 ≤ m.what ∧ m.what ≤ 2 := of_decide_eq_true HBL.out.1
    obtain ⟨p, hp⟩ : ∃ p : Nat, m.what = (p : Int) := ⟨m.what.toNat, by omega⟩
    have hlt : p < 18446744073709551616 := by omega
    have hple : p ≤ 2 := by omega
    have HQ : Ms.part 119 m = Gr.numB p := by
      have e : Ms.part 119 m = Gr.numB m.what.toNat := rfl
      rw [hp] at e; exact e
    rw [HQ]
    rw [hp] at hb1 hk1 hw1 ⊢
    clear HQ hp
    obtain ⟨w1, hw1⟩ := hw1
    rw [← hw1] at hb1 hk1
    have hN := rnum_any p hlt w1
    cases fl
    all_goals
      go_enter Tryz.func29, Tryz.ntmps29
      go_wp2_with fail
      rw [← hw1]
      refine hN.mono ?_
      rintro e w2 hret
      have hret2 := own_up hb1 hret
      obtain ⟨A3, c3, rfl, hown3, hb3⟩ := hret
      go_wp2_with fail
      go_ret
      exact hret2
  · have hlt := HWF.out.version
    have HQ : Ms.part 118 m = Gr.numB m.version := rfl
    rw [HQ]
    obtain ⟨p, hp⟩ : ∃ p, p = m.version := ⟨_, rfl⟩
    rw [← hp] at hlt hb1 hk1 hw1 ⊢
    clear HQ hp
    obtain ⟨w1, hw1⟩ := hw1
    rw [← hw1] at hb1 hk1
    have hN := rnum_any p hlt w1
    cases fl
    all_goals
      go_enter Tryz.func29, Tryz.ntmps29
      go_wp2_with fail
      rw [← hw1]
      refine hN.mono ?_
      rintro e w2 hret
      have hret2 := own_up hb1 hret
      obtain ⟨A3, c3, rfl, hown3, hb3⟩ := hret
      go_wp2_with fail
      go_ret
      exact hret2
  · have hlt := HWF.out.attempt
    have HQ : Ms.part 97 m = Gr.numB m.attempt := rfl
    rw [HQ]
    obtain ⟨p, hp⟩ : ∃ p, p = m.attempt := ⟨_, rfl⟩
    rw [← hp] at hlt hb1 hk1 hw1 ⊢
    clear HQ hp
    obtain ⟨w1, hw1⟩ := hw1
    rw [← hw1] at hb1 hk1
    have hN := rnum_any p hlt w1
    cases fl
    all_goals
      go_enter Tryz.func29, Tryz.ntmps29
      go_wp2_with fail
      rw [← hw1]
      refine hN.mono ?_
      rintro e w2 hret
      have hret2 := own_up hb1 hret
      obtain ⟨A3, c3, rfl, hown3, hb3⟩ := hret
      go_wp2_with fail
      go_ret
      exact hret2
  · have hlt := HWF.out.stamp
    have HQ : Ms.part 116 m = Gr.numB m.stamp := rfl
    rw [HQ]
    obtain ⟨p, hp⟩ : ∃ p, p = m.stamp := ⟨_, rfl⟩
    rw [← hp] at hlt hb1 hk1 hw1 ⊢
    clear HQ hp
    obtain ⟨w1, hw1⟩ := hw1
    rw [← hw1] at hb1 hk1
    have hN := rnum_any p hlt w1
    cases fl
    all_goals
      go_enter Tryz.func29, Tryz.ntmps29
      go_wp2_with fail
      rw [← hw1]
      refine hN.mono ?_
      rintro e w2 hret
      have hret2 := own_up hb1 hret
      obtain ⟨A3, c3, rfl, hown3, hb3⟩ := hret
      go_wp2_with fail
      go_ret
      exact hret2
  · have hin : 0 ≤ m.offset ∧ m.offset ≤ 8300 := of_decide_eq_true HBL.out.1
    obtain ⟨p, hp⟩ : ∃ p : Nat, m.offset = (p : Int) := ⟨m.offset.toNat, by omega⟩
    have hlt : p < 18446744073709551616 := by omega
    have hple : p ≤ 8300 := by omega
    have HQ : Ms.part 111 m = Gr.numB p := by
      have e : Ms.part 111 m = Gr.numB m.offset.toNat := rfl
      rw [hp] at e; exact e
    rw [HQ]
    rw [hp] at hb1 hk1 hw1 ⊢
    clear HQ hp
    obtain ⟨w1, hw1⟩ := hw1
    rw [← hw1] at hb1 hk1
    have hN := rnum_any p hlt w1
    cases fl
    all_goals
      go_enter Tryz.func29, Tryz.ntmps29
      go_wp2_with fail
      rw [← hw1]
      refine hN.mono ?_
      rintro e w2 hret
      have hret2 := own_up hb1 hret
      obtain ⟨A3, c3, rfl, hown3, hb3⟩ := hret
      go_wp2_with fail
      go_ret
      exact hret2
  · have hin : 0 ≤ m.total ∧ m.total ≤ 8300 := of_decide_eq_true HBL.out.1
    obtain ⟨p, hp⟩ : ∃ p : Nat, m.total = (p : Int) := ⟨m.total.toNat, by omega⟩
    have hlt : p < 18446744073709551616 := by omega
    have hple : p ≤ 8300 := by omega
    have HQ : Ms.part 84 m = Gr.numB p := by
      have e : Ms.part 84 m = Gr.numB m.total.toNat := rfl
      rw [hp] at e; exact e
    rw [HQ]
    rw [hp] at hb1 hk1 hw1 ⊢
    clear HQ hp
    obtain ⟨w1, hw1⟩ := hw1
    rw [← hw1] at hb1 hk1
    have hN := rnum_any p hlt w1
    cases fl
    all_goals
      go_enter Tryz.func29, Tryz.ntmps29
      go_wp2_with fail
      rw [← hw1]
      refine hN.mono ?_
      rintro e w2 hret
      have hret2 := own_up hb1 hret
      obtain ⟨A3, c3, rfl, hown3, hb3⟩ := hret
      go_wp2_with fail
      go_ret
      exact hret2
  · have hin : 0 ≤ m.size ∧ m.size ≤ 4096 := of_decide_eq_true HBL.out.1
    obtain ⟨p, hp⟩ : ∃ p : Nat, m.size = (p : Int) := ⟨m.size.toNat, by omega⟩
    have hlt : p < 18446744073709551616 := by omega
    have hple : p ≤ 4096 := by omega
    have HQ : Ms.part 122 m = Gr.numB p := by
      have e : Ms.part 122 m = Gr.numB m.size.toNat := rfl
      rw [hp] at e; exact e
    rw [HQ]
    rw [hp] at hb1 hk1 hw1 ⊢
    clear HQ hp
    obtain ⟨w1, hw1⟩ := hw1
    rw [← hw1] at hb1 hk1
    have hN := rnum_any p hlt w1
    cases fl
    all_goals
      go_enter Tryz.func29, Tryz.ntmps29
      go_wp2_with fail
      rw [← hw1]
      refine hN.mono ?_
      rintro e w2 hret
      have hret2 := own_up hb1 hret
      obtain ⟨A3, c3, rfl, hown3, hb3⟩ := hret
      go_wp2_with fail
      go_ret
      exact hret2
  · have hin : 0 ≤ m.code ∧ m.code ≤ 99 := of_decide_eq_true HBL.out.1
    obtain ⟨p, hp⟩ : ∃ p : Nat, m.code = (p : Int) := ⟨m.code.toNat, by omega⟩
    have hlt : p < 18446744073709551616 := by omega
    have hple : p ≤ 99 := by omega
    have HQ : Ms.part 99 m = Gr.numB p := by
      have e : Ms.part 99 m = Gr.numB m.code.toNat := rfl
      rw [hp] at e; exact e
    rw [HQ]
    rw [hp] at hb1 hk1 hw1 ⊢
    clear HQ hp
    obtain ⟨w1, hw1⟩ := hw1
    rw [← hw1] at hb1 hk1
    have hN := rnum_any p hlt w1
    cases fl
    all_goals
      go_enter Tryz.func29, Tryz.ntmps29
      go_wp2_with fail
      rw [← hw1]
      refine hN.mono ?_
      rintro e w2 hret
      have hret2 := own_up hb1 hret
      obtain ⟨A3, c3, rfl, hown3, hb3⟩ := hret
      go_wp2_with fail
      go_ret
      exact hret2
  · have HQ : Ms.part 100 m = Gr.numB m.data.length ++ m.data := rfl
    have hle : m.data.length ≤ 200 := of_decide_eq_true HBL.out.2
    rw [HQ]
    clear HQ
    obtain ⟨w1, hw1⟩ := hw1
    rw [← hw1] at hb1 hk1
    have hN := rtextb_any A m.data.length c m.data w1 ((ha1.1.below hb1).more hb1.size) (by omega)
    obtain ⟨X, hX⟩ : ∃ X, X = Gr.numB m.data.length ++ m.data := ⟨_, rfl⟩
    rw [← hX] at hN ⊢
    clear hX
    cases fl
    all_goals
      go_enter Tryz.func29, Tryz.ntmps29
      go_wp2_with fail
      rw [← hw1]
      refine hN.mono ?_
      rintro e w2 hret
      have hret2 := own_up hb1 hret
      obtain ⟨A3, c3, rfl, hown3, hb3⟩ := hret
      go_wp2_with fail
      go_ret
      exact hret2
  · have HQ : Ms.part 114 m = Gr.numB m.rows.length ++ m.rows.flatMap Ms.rowB := rfl
    obtain ⟨hn8, hrow⟩ := rows_all HBL.out.1 HBL.out.2
    rw [HQ]
    clear HQ
    obtain ⟨X, hX⟩ : ∃ X, X = Gr.numB m.rows.length ++ m.rows.flatMap Ms.rowB := ⟨_, rfl⟩
    rw [← hX]
    obtain ⟨n, hn⟩ : ∃ n, n = m.rows.length := ⟨_, rfl⟩
    rw [← hn] at hn8 hX hb1 hk1 hw1 ⊢
    have HX := Lib.hid (And.intro hX (And.intro hn hrow))
    clear hX hn hrow
    obtain ⟨w1, hw1⟩ := hw1
    rw [← hw1] at hb1 hk1
    have hN := rnum_any n (by omega) w1
    have hl9 := (Gr.numB_len n).1
    cases fl
    all_goals
      go_enter Tryz.func29, Tryz.ntmps29
      go_wp2_with fail
      rw [← hw1]
      refine hN.mono ?_
      rintro e w2 ⟨A3, c3, rfl, hown3, hb3⟩
      have hps : PS w w2 _ A3 (Gr.numB n).length c3 (Gr.numB n) := ⟨hk1.stay hb3, World.ownsRow.mono hown3 hb1.size, hb1.trans (hb3.mono hb1.size)⟩
      obtain ⟨L, hL⟩ : ∃ L, L = (Gr.numB n).length := ⟨_, rfl⟩
      rw [← hL] at hps hl9 ⊢
      clear hk1 hb3 hown3 hb1 hL
      go_wp2_with fail
      go_loopg [6, 7] n (fun r b i wr => ∃ (k L : Nat) (A : Option Addr) (c : Nat) (bs : List UInt8), r + k = n ∧ i = .int .i64 (k : Int) ∧ b = .slice A L c ∧ L ≤ 200 + 200 * k ∧ PS w wr _ A L c bs ∧ Hid (bs = Gr.numB n ++ (m.rows.take k).flatMap Ms.rowB))
      case atStart => exact ⟨0, L, A3, c3, Gr.numB n, by omega, rfl, rfl, by omega, hps, Lib.hid (by simp)⟩
      case round =>
        clear hps hl9
        obtain ⟨k, L, A4, c4, bs, hgk, rfl, rfl, hL, hps, HBS⟩ := hrel
        obtain ⟨wi, rfl⟩ : ∃ wi : World, wi = wr := ⟨_, rfl⟩
        have y15 := hps.msg.cell 15
        simp only [List.getElem?_toArray, List.getElem?_cons_succ, List.getElem?_cons_zero] at y15
        by_cases hlt : k < n
        · obtain ⟨x, hx⟩ : ∃ x, m.rows[k]? = some x := ⟨_, List.getElem?_eq_getElem (by rw [← HX.out.2.1]; exact hlt)⟩
          obtain ⟨hpl, hkb, hsb⟩ := HX.out.2.2 x (List.mem_of_getElem? hx)
          obtain ⟨hv64, hs64⟩ := HWF.out.rows x (List.mem_of_getElem? hx)
          obtain ⟨b1, o1, rfl, hbl1, r1⟩ := ha3.at_ hx
          have hrt : (m.rows.take (k + 1)).flatMap Ms.rowB = (m.rows.take k).flatMap Ms.rowB ++ Ms.rowB x := by rw [List.take_add_one, hx, List.flatMap_append]; simp
          obtain ⟨kn, hkn⟩ : ∃ kn : Nat, x.kind = (kn : Int) := ⟨x.kind.toNat, by omega⟩
          obtain ⟨sn, hsn⟩ : ∃ sn : Nat, x.size = (sn : Int) := ⟨x.size.toNat, by omega⟩
          have hRB : Ms.rowB x = (Gr.numB x.path.length ++ x.path) ++ (Gr.numB kn ++ (Gr.numB x.version ++ (Gr.numB x.stamp ++ Gr.numB sn))) := by unfold Ms.rowB; rw [hkn, hsn]; rfl
          have hkn2 : kn ≤ 2 := by omega
          have hsn2 : sn ≤ 4096 := by omega
          have q0 := (hps.bel.cell (p := ⟨b1, o1 + k * 5 + 0, none⟩) hbl1).trans (r1 0 _ rfl)
          have q1 := (hps.bel.cell (p := ⟨b1, o1 + k * 5 + 1, none⟩) hbl1).trans (r1 1 _ rfl)
          have q2 := (hps.bel.cell (p := ⟨b1, o1 + k * 5 + 2, none⟩) hbl1).trans (r1 2 _ rfl)
          have q3 := (hps.bel.cell (p := ⟨b1, o1 + k * 5 + 3, none⟩) hbl1).trans (r1 3 _ rfl)
          have q4 := (hps.bel.cell (p := ⟨b1, o1 + k * 5 + 4, none⟩) hbl1).trans (r1 4 _ rfl)
          rw [Nat.add_zero] at q0
          rw [hkn] at q1
          rw [hsn] at q4
          clear r1 hkb hsb hkn hsn hx
          obtain ⟨pt, hpt⟩ : ∃ pt, pt = x.path := ⟨_, rfl⟩
          obtain ⟨xv, hxv⟩ : ∃ xv, xv = x.version := ⟨_, rfl⟩
          obtain ⟨xs, hxs⟩ : ∃ xs, xs = x.stamp := ⟨_, rfl⟩
          rw [← hpt] at hpl hRB q0
          rw [← hxv] at hv64 hRB q2
          rw [← hxs] at hs64 hRB q3
          have HR := Lib.hid (And.intro hrt hRB)
          clear hrt hRB hpt hxv hxs
          have hale := alloc_b wi (.cells #[.string (strOf pt), .int .i64 (kn : Int), .int .u64 (xv : Int), .int .u64 (xs : Int), .int .i64 (sn : Int)] 52)
          have hwx := hps.below hale
          have hxb := Blk.new wi 52 #[.string (strOf pt), .int .i64 (kn : Int), .int .u64 (xv : Int), .int .u64 (xs : Int), .int .i64 (sn : Int)]
          obtain ⟨cb, wb, kc, hb, hbd, hbz⟩ := conv_str (wi.alloc (.cells #[.string (strOf pt), .int .i64 (kn : Int), .int .u64 (xv : Int), .int .u64 (xs : Int), .int .i64 (sn : Int)] 52)) pt
          have hz1 : (wi.alloc (.cells #[.string (strOf pt), .int .i64 (kn : Int), .int .u64 (xv : Int), .int .u64 (xs : Int), .int .i64 (sn : Int)] 52)).heap.size = wi.heap.size + 1 := by simp
          rw [hz1] at hbd
          have hT := rtextb_any (some ⟨wi.heap.size + 1, 0, none⟩) pt.length cb pt wb hbd (by omega)
          obtain ⟨T0, hT0⟩ : ∃ T0, T0 = Gr.numB pt.length ++ pt := ⟨_, rfl⟩
          have hT0l : T0.length ≤ 105 := by rw [hT0, List.length_append]; have := (Gr.numB_len pt.length).1; omega
          rw [← hT0] at hT
          have HT0 := Lib.hid hT0
          clear hT0
          obtain ⟨l0, hl0⟩ : ∃ l0, l0 = T0.length := ⟨_, rfl⟩
          rw [← hl0] at hT hT0l
          have hps0 := hwx.below hb
          have hx0 := hxb.stay hb
          clear hl0 hwx hxb hb hbd hbz hale hps
          go_wp2_with fail
          refine hT.mono ?_
          rintro e wy0 ⟨A6, c6, rfl, hown6, hb6⟩
          have hpq := hps0.below hb6
          have hxq := hx0.stay hb6
          have hq1 : L + l0 ≤ 140737488355328 := by omega
          have hq2 := hpq.bel.size
          clear hps0 hx0
          go_wp2_with (at_builtin; refine wpList_app bt rfl (.tmp 42) (.tmp 46) rfl w.heap.size _ _ _ _ rfl hpq.own _ _ _ _ T0 rfl hown6.bs hq1 hq2 ?_; intro A70 c70 wz0 hown7 hg7 _; have hps1 := hpq.app hg7 hown7; have hx1 := hpq.row hg7 hxq; have z1 := hx1.cell 1; simp only [List.getElem?_toArray, List.getElem?_cons_succ, List.getElem?_cons_zero] at z1)
          clear hpq hxq hown6 hb6 hown7 hg7 hq1 hq2
          have hM := rnum_any kn (by omega) wz0
          obtain ⟨N1, hN1⟩ : ∃ N1, N1 = Gr.numB kn := ⟨_, rfl⟩
          have hN1l : N1.length ≤ 9 := by rw [hN1]; exact (Gr.numB_len kn).1
          rw [← hN1] at hM
          have HN1 := Lib.hid hN1
          clear hN1
          obtain ⟨l1, hl1⟩ : ∃ l1, l1 = N1.length := ⟨_, rfl⟩
          rw [← hl1] at hM hN1l
          clear hl1
          refine hM.mono ?_
          rintro e wy1 ⟨A6, c6, rfl, hown6, hb6⟩
          have hpq := hps1.below hb6
          have hxq := hx1.stay hb6
          have hq1 : L + l0 + l1 ≤ 140737488355328 := by omega
          have hq2 := hpq.bel.size
          clear hps1 hx1
          go_wp2_with (at_builtin; refine wpList_app bt rfl (.tmp 48) (.tmp 52) rfl w.heap.size _ _ _ _ rfl hpq.own _ _ _ _ N1 rfl hown6.bs hq1 hq2 ?_; intro A71 c71 wz1 hown7 hg7 _; have hps2 := hpq.app hg7 hown7; have hx2 := hpq.row hg7 hxq; have z2 := hx2.cell 2; simp only [List.getElem?_toArray, List.getElem?_cons_succ, List.getElem?_cons_zero] at z2)
          clear hpq hxq hown6 hb6 hown7 hg7 hq1 hq2
          have hM := rnum_any xv (by omega) wz1
          obtain ⟨N2, hN2⟩ : ∃ N2, N2 = Gr.numB xv := ⟨_, rfl⟩
          have hN2l : N2.length ≤ 9 := by rw [hN2]; exact (Gr.numB_len xv).1
          rw [← hN2] at hM
          have HN2 := Lib.hid hN2
          clear hN2
          obtain ⟨l2, hl2⟩ : ∃ l2, l2 = N2.length := ⟨_, rfl⟩
          rw [← hl2] at hM hN2l
          clear hl2
          refine hM.mono ?_
          rintro e wy2 ⟨A6, c6, rfl, hown6, hb6⟩
          have hpq := hps2.below hb6
          have hxq := hx2.stay hb6
          have hq1 : L + l0 + l1 + l2 ≤ 140737488355328 := by omega
          have hq2 := hpq.bel.size
          clear hps2 hx2
          go_wp2_with (at_builtin; refine wpList_app bt rfl (.tmp 54) (.tmp 57) rfl w.heap.size _ _ _ _ rfl hpq.own _ _ _ _ N2 rfl hown6.bs hq1 hq2 ?_; intro A72 c72 wz2 hown7 hg7 _; have hps3 := hpq.app hg7 hown7; have hx3 := hpq.row hg7 hxq; have z3 := hx3.cell 3; simp only [List.getElem?_toArray, List.getElem?_cons_succ, List.getElem?_cons_zero] at z3)
          clear hpq hxq hown6 hb6 hown7 hg7 hq1 hq2
          have hM := rnum_any xs (by omega) wz2
          obtain ⟨N3, hN3⟩ : ∃ N3, N3 = Gr.numB xs := ⟨_, rfl⟩
          have hN3l : N3.length ≤ 9 := by rw [hN3]; exact (Gr.numB_len xs).1
          rw [← hN3] at hM
          have HN3 := Lib.hid hN3
          clear hN3
          obtain ⟨l3, hl3⟩ : ∃ l3, l3 = N3.length := ⟨_, rfl⟩
          rw [← hl3] at hM hN3l
          clear hl3
          refine hM.mono ?_
          rintro e wy3 ⟨A6, c6, rfl, hown6, hb6⟩
          have hpq := hps3.below hb6
          have hxq := hx3.stay hb6
          have hq1 : L + l0 + l1 + l2 + l3 ≤ 140737488355328 := by omega
          have hq2 := hpq.bel.size
          clear hps3 hx3
          go_wp2_with (at_builtin; refine wpList_app bt rfl (.tmp 59) (.tmp 62) rfl w.heap.size _ _ _ _ rfl hpq.own _ _ _ _ N3 rfl hown6.bs hq1 hq2 ?_; intro A73 c73 wz3 hown7 hg7 _; have hps4 := hpq.app hg7 hown7; have hx4 := hpq.row hg7 hxq; have z4 := hx4.cell 4; simp only [List.getElem?_toArray, List.getElem?_cons_succ, List.getElem?_cons_zero] at z4)
          clear hpq hxq hown6 hb6 hown7 hg7 hq1 hq2
          have hM := rnum_any sn (by omega) wz3
          obtain ⟨N4, hN4⟩ : ∃ N4, N4 = Gr.numB sn := ⟨_, rfl⟩
          have hN4l : N4.length ≤ 9 := by rw [hN4]; exact (Gr.numB_len sn).1
          rw [← hN4] at hM
          have HN4 := Lib.hid hN4
          clear hN4
          obtain ⟨l4, hl4⟩ : ∃ l4, l4 = N4.length := ⟨_, rfl⟩
          rw [← hl4] at hM hN4l
          clear hl4
          refine hM.mono ?_
          rintro e wy4 ⟨A6, c6, rfl, hown6, hb6⟩
          have hpq := hps4.below hb6
          have hxq := hx4.stay hb6
          have hq1 : L + l0 + l1 + l2 + l3 + l4 ≤ 140737488355328 := by omega
          have hq2 := hpq.bel.size
          clear hps4 hx4
          go_wp2_with (at_builtin; refine wpList_app bt rfl (.tmp 64) (.tmp 68) rfl w.heap.size _ _ _ _ rfl hpq.own _ _ _ _ N4 rfl hown6.bs hq1 hq2 ?_; intro A74 c74 wz4 hown7 hg7 _; have hps5 := hpq.app hg7 hown7; have hx5 := hpq.row hg7 hxq; have z5 := hx5.cell 4; simp only [List.getElem?_toArray, List.getElem?_cons_succ, List.getElem?_cons_zero] at z5)
          clear hpq hxq hown6 hb6 hown7 hg7 hq1 hq2
          go_roundg (gk - 1)
          case measure => omega
          case rel =>
            refine ⟨k + 1, _, _, _, _, by omega, by go_num, rfl, by omega, hps5, Lib.hid ?_⟩
            rw [HR.out.1, HR.out.2, HBS.out, HT0.out, HN1.out, HN2.out, HN3.out, HN4.out]
            simp only [List.append_assoc]
        · obtain rfl : k = n := by omega
          have hE := HBS.out
          rw [List.take_of_length_le (by rw [← HX.out.2.1]; exact Nat.le_refl _), ← HX.out.1] at hE
          subst hE
          have hXl := hps.own.len
          go_wp2_with fail
          go_ret
          exact ⟨A4, c4, by rw [hXl]; rfl, by rw [hXl]; exact hps.own, hps.bel⟩
end Go.Proofs.YthhhiiagppckhaaGreatDoor
end
