/- The walk of the document's Write of a message; conditions: none beyond its hypotheses. -/
import Derived.Test.YthhhiiagppckhaaGreatDoorMgMw3
import Derived.Deep.RegionLaw
set_option linter.unusedSimpArgs false
set_option linter.unusedVariables false
section
namespace Go.Proofs.YthhhiiagppckhaaGreatDoor
open Go.RowKit Go.Proofs.U
set_option linter.unusedVariables false

theorem PS.drew {w0 w : World} {mc : Array Value} {A : Option Addr} {n c : Nat} {bs : List UInt8} (h : PS w0 w mc A n c bs) : PS w0 w.drew mc A n c bs :=
  ⟨h.msg.drew, h.own.drew, h.bel.trans (Drawn.below ⟨1, rfl⟩ _)⟩
set_option maxRecDepth 100000 in
set_option maxHeartbeats 8000000 in
theorem rwrite_any (B0 : Nat) (m : Ms.Msg) (v : Value) (w : World) (h : MsgV w B0 m v) (hr : m.rows.length ≤ 140737488355328) (hwf : Ms.Wf m) :
    Calls Tryz.prog 16 #[v] w (WriteRet w m) := by
  have hv := h
  obtain ⟨A, c, A2, c2, rfl, ha1, ha2, ha3, ha4⟩ := h
  have hw1 : ∃ w1, w1 = (w.alloc (.cells (mCells m A c A2 c2) 27)) := ⟨_, rfl⟩
  have hk1 : Blk (w.alloc (.cells (mCells m A c A2 c2) 27)) w.heap.size 27 (mCells m A c A2 c2) := Blk.new w _ _
  have hb1 := alloc_b w (.cells (mCells m A c A2 c2) 27)
  have hck := rcheck_any B0 m _ _ (hv.below hb1) (by omega)
  have HWF := Lib.hid hwf
  obtain ⟨X, hX⟩ : ∃ X, X = wrM m := ⟨_, rfl⟩
  obtain ⟨CK, hCK⟩ : ∃ CK, CK = Ms.check m := ⟨_, rfl⟩
  unfold WriteRet
  rw [← hX, ← hCK]
  rw [← hCK] at hck
  have HX := Lib.hid (And.intro hX hCK)
  clear hX hwf
  simp only [mCells] at hw1 hb1 hck ⊢
  by_cases h0 : CK = 0
  · subst h0
    obtain ⟨k, hkk, hk16, hbd, hln⟩ := check_ok hCK.symm
    have hhas := fun W => rhas_any m.kind W
    have hPe : Ms.has m.kind = Ms.hasN (k + 1) := by unfold Ms.has; rw [hkk]; rfl
    obtain ⟨P, hP⟩ : ∃ P, P = Ms.has m.kind := ⟨_, rfl⟩
    rw [← hP] at hhas hPe
    have hPl : P.length ≤ 10 := by rw [hPe]; exact hasN_short _
    rw [← hPe] at hbd hln
    have hPa : ∀ c ∈ P, c ∈ Ms.alpha := by rw [hPe]; exact (Ms.hasN_alpha _).1
    have HKK := Lib.hid (And.intro hkk (And.intro hbd (And.intro hln (And.intro hPe hPa))))
    have HP := Lib.hid hP
    clear hkk hbd hln hCK hPe hP hPa
    have hN := fun W => rnum_any (k + 1) (by omega) W
    have hl9 := (Gr.numB_len (k + 1)).1
    obtain ⟨N0, hN0⟩ : ∃ N0, N0 = Gr.numB (k + 1) := ⟨_, rfl⟩
    rw [← hN0] at hN hl9
    have HN0 := Lib.hid hN0
    clear hN0
    go_enter Tryz.func16, Tryz.ntmps16
    go_wp2_with fail
    simp only [mCells] at hk1
    obtain ⟨w1, hw1⟩ := hw1
    rw [← hw1] at hk1 hb1 hck ⊢
    clear hw1
    refine hck.mono ?_
    rintro e w2 ⟨rfl, hb2⟩
    have hk2 := hk1.stay hb2
    have hbw2 := hb1.trans (hb2.mono hb1.size)
    have x0 := hk2.cell 0
    simp only [List.getElem?_toArray, List.getElem?_cons_zero] at x0
    rw [HKK.out.1] at x0
    have hk16' : (k : Int) + 1 ≤ 16 := by omega
    clear hb2 hk1 hb1 hck
    go_wp2_with fail
    refine (hN _).mono ?_
    rintro e w3 ⟨A3, c3, rfl, hown3, hb3⟩
    have hps3 : PS w w3 _ A3 N0.length c3 N0 := ⟨hk2.stay hb3, World.ownsRow.mono hown3 hbw2.size, hbw2.trans (hb3.mono hbw2.size)⟩
    have y0 := hps3.msg.cell 0
    simp only [List.getElem?_toArray, List.getElem?_cons_zero] at y0
    have y0' := y0
    rw [HKK.out.1] at y0'
    obtain ⟨L0, hL0⟩ : ∃ L0, L0 = N0.length := ⟨_, rfl⟩
    rw [← hL0] at hps3 hl9 ⊢
    clear hk2 hbw2 x0 hb3 hown3 hN hL0 y0
    have hhas' := hhas
    rw [HKK.out.1] at hhas'
    go_wp2_with fail
    refine (hhas' _).mono ?_
    rintro e wq ⟨rfl, hwq⟩
    have hwq2 := hwq.symm
    clear hwq
    subst hwq2
    have hsz := Lib.hid (str_size P)
    clear hhas hhas' y0'
    go_wp2_with fail
    go_loopg [5, 7] P.length (fun r b i wr => ∃ (pos L : Nat) (A : Option Addr) (c' : Nat) (bs : List UInt8), i = .int .i64 (pos : Int) ∧ r + pos = P.length ∧ b = .slice A L c' ∧ L ≤ 9 + 2000 * pos ∧ PS w wr _ A L c' bs ∧ Hid (bs = N0 ++ (P.take pos).flatMap fun c => Ms.part c m))
    case atStart => exact ⟨0, L0, A3, c3, N0, rfl, by omega, rfl, by omega, hps3, Lib.hid (by simp)⟩
    case round =>
      clear hps3 hl9
      obtain ⟨pos, L, A4, c4, bs, rfl, hpos, rfl, hL, hps, HBS⟩ := hrel
      obtain ⟨wo, rfl⟩ : ∃ wo : World, wo = wr := ⟨_, rfl⟩
      have hPs := hsz.out
      by_cases hk : gk = 0
      · subst hk
        have i2 : ¬ ((pos : Int) < ((strOf P).size : Int)) := by omega
        have hXe : X = bs := by
          rw [HX.out.1, wrM, if_pos HX.out.2.symm, HBS.out, List.take_of_length_le (by omega), HN0.out, HP.out]
          unfold Ms.enc
          rw [HKK.out.1]; rfl
        subst hXe
        clear hPs
        go_wp2_with fail
        go_ret2
        have hXl := hps.own.len
        exact ⟨A4, c4, by rw [hXl]; rfl, by rw [hXl]; exact hps.own, hps.bel⟩
      · obtain ⟨cc, hcc⟩ : ∃ cc, P[pos]? = some cc := ⟨_, List.getElem?_eq_getElem (by omega)⟩
        have hcm := List.mem_of_getElem? hcc
        have hca := HKK.out.2.2.2.2 cc hcm
        have hbc := HKK.out.2.1 cc hcm
        have hlc := HKK.out.2.2.1 cc hcm
        have hix : ∀ W, (Instr.index 9 (.string (strOf P)) (.int .i64 (pos : Int))).run Tryz.prog W = .ok (.int .u8 (cc.toNat : Int)) W := fun W => idx_at hcc
        have i2 : (pos : Int) < ((strOf P).size : Int) := by omega
        have hfl := flat_take (f := fun c => Ms.part c m) hcc
        have hpl := part_len cc hca m hbc hlc
        have hprt := fun W (h' : MsgV W B0 m (.agg (mCells m A c A2 c2))) => rpart_any B0 m _ cc hca hbc hlc W h' HWF.out
        obtain ⟨T, hT⟩ : ∃ T, T = Ms.part cc m := ⟨_, rfl⟩
        rw [← hT] at hpl hprt hfl
        obtain ⟨l, hl⟩ : ∃ l, l = T.length := ⟨_, rfl⟩
        rw [← hl] at hpl hprt
        have hbw : (bs ++ T) = N0 ++ (P.take (pos + 1)).flatMap fun c => Ms.part c m := by rw [hfl, HBS.out, List.append_assoc]
        have HBW := Lib.hid hbw
        have hpd := hps.drew
        obtain ⟨x0, x1, x2, x3, x4, x5, x6, x7, x8, x9, x10, x11, x12, x13, x14, x15⟩ := msg_cells (A := A) (c := c) (A2 := A2) (c2 := c2) hpd.msg
        have HPR := Lib.hid (hprt wo.drew (hv.below hpd.bel))
        clear hprt hfl hbw hcm hca hbc hlc hT hl hPs hcc
        have hq1 : L + l ≤ 140737488355328 := by omega
        go_wp2_with fail
        go_region_law (first
          | (go_simp
             go_at_call 29
             refine HPR.out.mono ?_
             rintro e w5 ⟨A6, c6, rfl, hown6, hb6⟩
             have hps5 := hpd.below hb6
             have hq2 := hps5.bel.size
             go_simp)
          | (refine step_app bt rfl (.tmp 26) (.tmp 31) rfl w.heap.size _ _ _ _ rfl hps5.own _ _ _ _ T rfl hown6.bs hq1 hq2 ?_; intro A7 c7 wz hown7 hg7; have hps7 := hps5.app hg7 hown7))
        all_goals
          go_wp2_with fail
          go_roundg (gk - 1)
          case measure => omega
          case rel => exact ⟨pos + 1, L + l, A7, c7, bs ++ T, by go_num, by omega, rfl, by omega, hps7, HBW⟩
  · have hff : ((CK : Int) == 0) = false := by rw [beq_eq_false_iff_ne]; omega
    have hff2 : ((CK : Int) != 0) = true := by rw [bne_iff_ne]; omega
    have HCK := Lib.hid hCK
    clear hCK
    go_enter Tryz.func16, Tryz.ntmps16
    go_wp2_with fail
    obtain ⟨w1, hw1⟩ := hw1
    rw [← hw1] at hb1 hck ⊢
    clear hw1 hk1
    refine hck.mono ?_
    rintro e w2 ⟨rfl, hb2⟩
    go_wp2_with fail
    go_ret2
    have hE : X = [] := by rw [HX.out.1, wrM, if_neg (by rw [← HCK.out]; exact h0)]
    subst hE
    exact ⟨none, 0, rfl, World.ownsRow_nil _ _ _ _, hb1.trans (hb2.mono hb1.size)⟩
end Go.Proofs.YthhhiiagppckhaaGreatDoor
end
