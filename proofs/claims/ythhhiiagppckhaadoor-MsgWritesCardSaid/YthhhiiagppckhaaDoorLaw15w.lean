/- The walk of MsgWrites; conditions: none beyond its hypotheses. -/
import Derived.Test.YthhhiiagppckhaaDoorLaw15v
namespace Go.Proofs.YthhhiiagppckhaaDoor
open Go.RowKit Go.Proofs.U
set_option linter.unusedVariables false

theorem quiet_load_blk {P : Program} {C : World → Prop} {o : Oper} {a : Act} {K : Act → Prop} (ty : TypeId) (x : Operand) (ho : o.op = .load ty x) (g : Nat) (hx : a.eval x = .pointer (some ⟨g, 0, none⟩)) (t : TypeId) (cs : Array Value) (d : TypeDesc) (hb : ∀ w, C w → Blk w g t cs)
    (hu : P.underlying ty = some d) (hd : d.isRow = true) (hi : (P.info? ty).map (·.size) = some cs.size) (h : K (a.put o.dst (.agg cs))) : o.quiet P a C K := by
  refine ⟨.agg cs, fun w hw => ?_, h⟩
  have hg := hb w hw
  unfold Oper.quietAt execOp
  simp only [ho, hx, Instr.loadAt, Instr.sureAddr, Sem.run_bind, Sem.run_pure, Result.andThen_ok, run_loadVar_row w g t ty cs (0, 0) d hg hu (by cases d <;> simp_all [TypeDesc.isRow]) hi]
  exact ⟨rfl, rfl⟩
set_option maxRecDepth 100000 in
set_option maxHeartbeats 8000000 in
theorem mw_right (v : Value) (m : Ms.Msg) (w : World) (h : MsgV w w.heap.size m v) (hwf : Ms.Wf m) (hbig : Ms.Big m) (hT : Nib w) (hlF : lightM m = true) (hck0 : Ms.check m = 0) :
    Calls Tryd.prog 3 #[v] w (Yes15 w) := by
  have hv := h
  obtain ⟨A, c, A2, c2, rfl, ha1, ha2, ha3, ha4⟩ := h
  have hw1 : ∃ w1, w1 = (w.alloc (.cells (mCells m A c A2 c2) 27)) := ⟨_, rfl⟩
  have hk1 : Blk (w.alloc (.cells (mCells m A c A2 c2) 27)) w.heap.size 27 (mCells m A c A2 c2) := Blk.new w _ _
  have hb1 := alloc_b w (.cells (mCells m A c A2 c2) 27)
  have hlt := fun W (h' : MsgV W w.heap.size m (.agg (mCells m A c A2 c2))) => light15_any w.heap.size m _ W h' hbig
  obtain ⟨lm, hlm⟩ : ∃ lm, lm = lightM m := ⟨_, rfl⟩
  rw [← hlm] at hlt
  rw [hlF] at hlm
  subst hlm
  have HLM := Lib.hid hlF.symm
  have HWF := Lib.hid (And.intro hwf hbig)
  have HT := Lib.hid hT
  have HC0 := Lib.hid hck0
  clear hck0 hlF hwf hbig hT
  simp only [mCells] at hw1 hb1 hk1 ⊢
  obtain ⟨w1, hw1⟩ := hw1
  have hrl : m.rows.length ≤ 100 := by
    have h := HLM.out
    unfold lightM at h
    have h' := (Bool.and_eq_true _ _).mp h.symm
    exact of_decide_eq_true h'.2
  have hW := fun W (h' : MsgV W w.heap.size m (.agg (mCells m A c A2 c2))) => mwrite_any w.heap.size m _ W h' (by omega) HWF.out.1
  have hRW := fun W (h' : MsgV W w.heap.size m (.agg (mCells m A c A2 c2))) => rwrite_any w.heap.size m _ W h' (by omega) HWF.out.1
  obtain ⟨X, hX⟩ : ∃ X, X = wrM m := ⟨_, rfl⟩
  obtain ⟨CK, hCK⟩ : ∃ CK, CK = Ms.check m := ⟨_, rfl⟩
  unfold WriteRet at hW hRW
  rw [← hX, ← hCK] at hW hRW
  obtain ⟨xl, hxl⟩ : ∃ xl, xl = X.length := ⟨_, rfl⟩
  rw [← hxl] at hW hRW
  have HC := Lib.hid (And.intro hW hRW)
  have HX := Lib.hid (And.intro hX (And.intro hCK hxl))
  clear hW hRW hX hCK hxl
  go_enter Tryd.func3, Tryd.ntmps3
  go_wp2_with fail
  rw [← hw1] at hb1 hk1 ⊢
  refine (hlt w1 (hv.below hb1)).mono ?_
  rintro e w2 ⟨rfl, hb2⟩
  have hb12 := hb1.trans (hb2.mono hb1.size)
  have hk2 := hk1.stay hb2
  obtain ⟨x0, x1, x2, x3, x4, x5, x6, x7, x8, x9, x10, x11, x12, x13, x14, x15⟩ := msg_cells (A := A) (c := c) (A2 := A2) (c2 := c2) hk2
  clear hlt hw1 hk1 hb2 hb1
  go_wp2_with fail
  refine (HC.out.1 w2 (hv.below hb12)).mono ?_
  rintro e w3 ⟨A3, c3, rfl, hown3, hb3⟩
  have hbw3 := hb12.trans (hb3.mono hb12.size)
  have hk3 := hk2.stay hb3
  obtain ⟨y0, y1, y2, y3, y4, y5, y6, y7, y8, y9, y10, y11, y12, y13, y14, y15⟩ := msg_cells (A := A) (c := c) (A2 := A2) (c2 := c2) hk3
  clear x0 x1 x2 x3 x4 x5 x6 x7 x8 x9 x10 x11 x12 x13 x14 x15 hk2 hb12
  go_wp2_with fail
  refine (HC.out.2 w3 (hv.below hbw3)).mono ?_
  rintro e w4 ⟨A4, c4, rfl, hown4, hb4⟩
  have hbw4 := hbw3.trans (hb4.mono hbw3.size)
  have hk4 := hk3.stay hb4
  have hown34 := hown3.below hb4
  have hff1 : ((CK : Int) != (CK : Int)) = false := by simp
  clear y0 y1 y2 y3 y4 y5 y6 y7 y8 y9 y10 y11 y12 y13 y14 y15 hk3 hb4 hown3 hb3
  have h0 : CK = 0 := HX.out.2.1.trans HC0.out
  subst h0
  have hxle : xl ≤ 1400 := by
    rw [HX.out.2.2, HX.out.1, wrM, if_pos HX.out.2.1.symm]
    exact Ms.enc_len HX.out.2.1.symm
  have hXe : X = Ms.enc m := by rw [HX.out.1, wrM, if_pos HX.out.2.1.symm]
  have hrd := Ms.read_enc HX.out.2.1.symm (wf_wid HWF.out.1)
  rw [← hXe] at hrd
  have hpr : (Ms.plain m).rows.length ≤ 1000000000 := by
    have h := Ms.readP_fit X
    rw [hrd] at h
    have := h.2.2.2.2.2.2
    simp only at this; omega
  have hrp := fun W (h' : MsgV W w.heap.size m (.agg (mCells m A c A2 c2))) => rplain_any w.heap.size m A c A2 c2 W h'
  obtain ⟨pm, hpm⟩ : ∃ pm, pm = Ms.plain m := ⟨_, rfl⟩
  rw [← hpm] at hrd hrp hpr
  have HRD := Lib.hid (And.intro hrd (And.intro hrp (And.intro hpr hpm)))
  clear hXe hrd hrp hpm hpr
  go_wp2_with (first
    | (go_at_call 14
       refine (same_any _ _ _ X _ _ _ X w4 w4.heap.size w4.heap.size hown34.bs hown4.bs).mono ?_
       rintro e w8 ⟨rfl, rfl⟩
       rw [show (X == X) = true by simp]))
  have hR4 := mRead_any A3 xl c3 w4.heap.size X w4 hown34.bs (Nat.le_refl _) hown34.le (by omega)
  rw [HRD.out.1] at hR4
  refine hR4.mono ?_
  rintro e w5 ⟨v5, rfl, hv5, hb5⟩
  obtain ⟨A5, c5, A6, c6, rfl, hv5'⟩ := id hv5
  clear hv5' hR4
  simp only [mCells]
  have hal5 := alloc_b w5 (.cells (mCells pm A5 c5 A6 c6) 27)
  have hv6 := hv5.below hal5
  have hk6 := Blk.new w5 27 (mCells pm A5 c5 A6 c6)
  have hb6 := hb5.trans (hal5.mono hb5.size)
  have hk46 := hk4.stay hb6
  have hown6 := hown34.below hb6
  have hbw6 := hbw4.trans (hb6.mono hbw4.size)
  have hFW := fwrap_any A3 xl c3 X _ hown6.bs (by omega) (HT.out.stay hbw6)
  rw [fwrap_ok X (by rw [← HX.out.2.2]; exact hxle)] at hFW
  obtain ⟨FB, hFB⟩ : ∃ FB, FB = sealed (two X.length) ++ sealed X := ⟨_, rfl⟩
  rw [← hFB] at hFW
  clear hFB
  unfold OwnCode at hFW
  simp only at hFW
  obtain ⟨fl, hfl⟩ : ∃ fl, fl = FB.length := ⟨_, rfl⟩
  rw [← hfl] at hFW
  clear hfl
  simp only [mCells] at hal5 hv6 hk6 hb6 hk46 hbw6 hown6 hFW
  go_wp2_with fail
  refine hFW.mono ?_
  rintro e w7 ⟨A7, c7, rfl, hown7, hb7⟩
  have hk7 := hk6.stay hb7
  have hk47 := hk46.stay hb7
  have hv7 := hv6.below hb7
  have hbw7 := hbw6.trans (hb7.mono hbw6.size)
  clear hFW hown7 hown6 hk6 hk46 hv6 hbw6 hal5 hb6
  simp only
  go_wp2_with fail
  obtain ⟨V9, hV9⟩ : ∃ V9, V9 = plV m A c A2 c2 := ⟨_, rfl⟩
  have hPL := HRD.out.2.1
  have hvV := fun w' (hb : Below w.heap.size w w') => plV_msg hv hb (plain_parts m).1 (plain_parts m).2
  rw [← hV9] at hPL hvV
  rw [← HRD.out.2.2.2] at hvV
  simp only [mCells] at hPL
  have HPL := Lib.hid (And.intro hPL hvV)
  clear hvV hV9
  have HF := Lib.hid (And.intro hk7 (And.intro hk47 (And.intro hv7 hbw7)))
  clear hPL hbw7 hk7 hk47 hv7 hb7 hk4 hown34 hown4
  refine wp_region_class (C := fun w' => Below w7.heap.size w7 w') (by kernel_rfl) (by kernel_rfl) (Drawn.below ⟨1, rfl⟩ _) ?_
  have hvl := fun w' (hb : Below w.heap.size w w') => hv.below hb
  have HVL := Lib.hid hvl
  clear hvl
  refine wpQuiet_step (fun K hK => ?_)
  rw [if_pos (by rfl)]
  refine quiet_load_blk 27 (.tmp 7) rfl w5.heap.size rfl 27 _ _ (fun w' hw' => HF.out.1.stay hw') Tryd.underlying27 rfl infoM16 (hK _ ?_)
  clear hK K
  go_simp
  refine wpQuiet_step (fun K hK => ?_)
  rw [if_pos (by rfl)]
  refine quiet_load_blk 27 (.tmp 1) rfl w.heap.size rfl 27 _ _ (fun w' hw' => HF.out.2.1.stay hw') Tryd.underlying27 rfl infoM16 (hK _ ?_)
  clear hK K
  go_simp
  repeat
    (refine wpQuiet_step (fun K hK => ?_)
     rw [if_pos (by rfl)]
     apply Exists.intro
     refine ⟨fun w' hw' => ?_, hK _ ?_⟩
     · have hbww := HF.out.2.2.2.trans (hw'.mono HF.out.2.2.2.size)
       have hP1 := HPL.out.1 w' (HVL.out w' hbww)
       have hS1 := rsame15_eq w4.heap.size w.heap.size pm _ _ w' (HF.out.2.2.1.below hw') (HPL.out.2 w' hbww) HRD.out.2.2.1
       have hl1 := lives15_any w'
       go_simp
       first
         | done
         | rfl
         | ((with_reducible refine hP1.mono ?_)
            rintro e w1 ⟨rfl, _, hb1⟩
            exact ⟨rfl, hw'.trans (hb1.mono hw'.size)⟩)
         | ((with_reducible refine hS1.mono ?_)
            rintro e w1 ⟨rfl, hb1⟩
            exact ⟨rfl, hw'.trans (hb1.mono hw'.size)⟩)
         | ((with_reducible refine hl1.mono ?_)
            rintro e w1 ⟨rfl, hb1⟩
            exact ⟨rfl, hw'.trans (hb1.mono hw'.size)⟩)
     clear hK K
     go_simp)
  refine wpQuiet_nil ?_
  intro w9 hw9
  go_wp2_with fail
  go_ret
  exact ⟨rfl, HF.out.2.2.2.trans (hw9.mono HF.out.2.2.2.size)⟩
set_option maxRecDepth 100000 in
set_option maxHeartbeats 8000000 in
theorem msgWrites_any (v : Value) (m : Ms.Msg) (w : World) (h : MsgV w w.heap.size m v) (hwf : Ms.Wf m) (hbig : Ms.Big m) (hT : Nib w) :
    Calls Tryd.prog 3 #[v] w (Yes15 w) := by
  cases hl : lightM m with
  | false => exact mw_heavy v m w h hwf hbig hT hl
  | true =>
    by_cases h0 : Ms.check m = 0
    · exact mw_right v m w h hwf hbig hT hl h0
    · exact mw_wrong v m w h hwf hbig hT hl h0
end Go.Proofs.YthhhiiagppckhaaDoor
