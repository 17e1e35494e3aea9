/- The walk of LineBack; conditions: none beyond its hypotheses. -/
import Derived.Test.YthhhiiagppckhaaDoorMgLn6
import Derived.Test.YthhhiiagppckhaaDoorMgLn8
import Derived.Test.YthhhiiagppckhaaDoorMgMpl
import Derived.Test.YthhhiiagppckhaaDoorMgMw2
set_option linter.unusedSimpArgs false
set_option linter.unusedVariables false
section
namespace Go.Proofs.YthhhiiagppckhaaDoor
open Go.RowKit Go.Proofs.U Go.Proofs.Bp
set_option linter.unusedVariables false

/-- what holds at a round's head, while messages are said -/
def SaidAt (w w1 : World) (ps : List Mp) (n rem : Nat) (vb vw idx : Value) (wr : World) : Prop :=
  ∃ (k nb nw : Nat) (A7 : Option Addr) (c7 : Nat) (A8 : Option Addr) (c8 : Nat) (qs : List Mp), rem + k = n ∧ idx = .int .i64 (k : Int) ∧ vb = .slice A7 nb c7 ∧ vw = .slice A8 nw c8 ∧ Own wr w1.heap.size 5 A7 nb c7 (frames (es33 (ps.take k))) ∧ MO wr w1.heap.size A8 nw c8 qs ∧
    qs.map Mp.m = pl33 (ps.take k) ∧ (∀ q ∈ qs, MsgV w w.heap.size q.m q.v) ∧ nb ≤ 1410 * k ∧ nw ≤ k ∧ Below w1.heap.size w1 wr
/-- what holds at a round's head, while bytes are fed -/
def BackAt (w2 : World) (gb : Nat) (es : List (List UInt8)) (rem : Nat) (vb vg : Value) (wr : World) : Prop :=
  ∃ (P bs : List UInt8) (A7 : Option Addr) (c7 ng : Nat) (A13 : Option Addr) (c13 : Nat) (gs : List Mp) (es1 es2 : List (List UInt8)), vb = .slice A7 rem c7 ∧ BS wr w2.heap.size A7 rem bs ∧ rem ≤ c7 ∧ Off gb A7 rem ∧ vg = .slice A13 ng c13 ∧ MO wr w2.heap.size A13 ng c13 gs ∧ es = es1 ++ es2 ∧
    gs.map Mp.m = es1.map rdM ∧ (∀ p ∈ gs, MsgV wr 0 p.m p.v) ∧ Ink wr gb P 0 ∧ Part P ∧ P ++ bs = frames es2 ∧ w2.grownBy wr (some gb)
set_option maxRecDepth 100000 in
set_option maxHeartbeats 8000000 in
theorem lineBack_any (A0 : Option Addr) (n0 c0 : Nat) (ps : List Mp) (x : UInt8) (w : World) (h : MS w w.heap.size A0 n0 ps) (hp : ∀ q ∈ ps, MsgV w w.heap.size q.m q.v ∧ Ms.Wf q.m ∧ Ms.Big q.m) (hT : Nib w) :
    Calls Tryd.prog 7 #[.slice A0 n0 c0, .int .u8 (x.toNat : Int)] w (Yes33 w) := by
  obtain ⟨hz, hs⟩ := Go.zero_of_info zero_ink
  have HPS := Lib.hid hp
  clear hp
  by_cases h30 : (30 : Int) < (n0 : Int)
  · go_enter Tryd.func7, Tryd.ntmps7
    go_wp2_with fail
    refine (lives33_any _ hT).mono ?_
    rintro e w7 ⟨rfl, hb7⟩
    go_wp2_with fail
    go_ret
    exact ⟨rfl, hb7⟩
  · have hn30 : n0 ≤ 30 := by omega
    go_enter Tryd.func7, Tryd.ntmps7
    go_wp2_with fail
    refine (new_line _).mono ?_
    rintro e w0 ⟨ga, rfl, hga, hka, hb0⟩
    have HGA := Lib.hid hga
    clear hga
    have hal0 := alloc_b w0 (.cells ink0 73)
    have hkb : Ink (w0.alloc (.cells ink0 73)) w0.heap.size [] 0 := ⟨List.replicate 1410 0, by rw [List.length_replicate]; rfl, by rw [← ink0_eq]; exact Blk.new _ _ _⟩
    have hbw1 := hb0.trans (hal0.mono hb0.size)
    have hka1 := hka.below hal0
    have hg0 := hb0.size
    have hgb0 := hkb.lt
    go_wp2_with fail
    clear hz hs
    generalize (w0.alloc (.cells ink0 73)) = w1 at hal0 hkb hbw1 hka1 hgb0 ⊢
    obtain ⟨gb, hgb⟩ : ∃ gb, gb = w0.heap.size := ⟨_, rfl⟩
    rw [← hgb] at hkb hgb0 hg0 ⊢
    have HGB := Lib.hid hgb
    clear hgb hal0 hka
    have hT1 := hT.stay hbw1
    go_loopg [7, 8, 26] n0 (fun rem vb vw idx wr => SaidAt w w1 ps n0 rem vb vw idx wr)
    case atStart => exact ⟨0, 0, 0, none, 0, none, 0, [], rfl, rfl, rfl, rfl, Own.nil _ _ _, MO.nil _ _, rfl, by simp, Nat.le_refl _, Nat.le_refl _, Below.refl _ _⟩
    case round =>
      obtain ⟨k, nb, nw, A7, c7, A8, c8, qs, hgk, rfl, rfl, rfl, hob, hmo, hqm, hqv, hnb, hnw, hbw⟩ := hrel
      have hbwr := hbw1.trans (hbw.mono hbw1.size)
      by_cases hlt : k < n0
      · obtain ⟨b1, o1, p, rfl, hb1, hp, r1⟩ := h.at_ hlt
        have r1 := below_range r1 hbwr hb1
        obtain ⟨hpv, hwf, hbig⟩ := HPS.out p (List.mem_of_getElem? hp)
        have hlight := fun W (hb : Below w.heap.size w W) => light15_any w.heap.size p.m (.agg p.cells.toArray) W (hpv.below hb) hbig
        obtain ⟨lm, hlm⟩ : ∃ lm, lm = lightM p.m := ⟨_, rfl⟩
        rw [← hlm] at hlight
        have HP := Lib.hid (And.intro hp (And.intro hpv (And.intro hwf hbig)))
        have HR := Lib.hid r1
        have hb1r := Nat.lt_of_lt_of_le hb1 hbwr.size
        have HL := Lib.hid hlm
        clear hp hpv hwf hbig r1 hlm
        go_wp2_with (first
          | (refine wpList_load_mid rfl 27 (.tmp 28) rfl b1 (o1 + k * 16) rfl p.cells _ HR.out Tryd.underlying27 rfl (infoM16l p) ?_)
          | (refine wpList_store_blk rfl 27 (.tmp 10) (.tmp 29) rfl wr.heap.size p.cells.toArray rfl rfl 27 _ (Blk.new wr _ _) infoM16 rfl (Mp.all_one p) ?_; intro w3 hk3 hg3)
          | (refine wpList_load_blk rfl 27 (.tmp 10) rfl wr.heap.size rfl 27 _ _ hk3 Tryd.underlying27 rfl infoM16 ?_))
        have hb3 := new_below hg3
        have hbw3 := hbwr.trans (hb3.mono hbwr.size)
        refine (hlight w3 hbw3).mono ?_
        rintro e w4 ⟨rfl, hb4⟩
        have hb34 := hb3.trans (hb4.mono hb3.size)
        have hbw4 := hbwr.trans (hb34.mono hbwr.size)
        have hk4 := hk3.stay hb4
        clear hlight hk3 hg3 hb4 hb3 hbw3
        cases lm
        case false =>
          go_wp2_with fail
          refine (lives33_any _ (hT.stay hbw4)).mono ?_
          rintro e w7 ⟨rfl, hb7⟩
          go_wp2_with fail
          go_ret
          exact ⟨rfl, hbw4.trans (hb7.mono hbw4.size)⟩
        case true =>
          have hrl : p.m.rows.length ≤ 100 := by
            have h := HL.out
            unfold lightM at h
            exact of_decide_eq_true ((Bool.and_eq_true _ _).mp h.symm).2
          have hka4 := (hka1.below hbw).below hb34
          have hsay := say_any ga [] w.heap.size p.m (.agg p.cells.toArray) w4 (HP.out.2.1.below hbw4) (by omega) HP.out.2.2.1 (by by_cases h0 : Ms.check p.m = 0; exact .inl (Ms.enc_len h0); exact .inr h0) hka4 (hT.stay hbw4)
          have hchk := fun W (hb : Below w.heap.size w W) => rcheck_any w.heap.size p.m (.agg p.cells.toArray) W (HP.out.2.1.below hb) (by omega)
          unfold SayRet at hsay
          obtain ⟨SB, hSB⟩ : ∃ SB, SB = sayB p.m := ⟨_, rfl⟩
          obtain ⟨SE, hSE⟩ : ∃ SE, SE = sayE p.m := ⟨_, rfl⟩
          obtain ⟨CK, hCK⟩ : ∃ CK, CK = Ms.check p.m := ⟨_, rfl⟩
          rw [← hSB, ← hSE] at hsay
          rw [← hCK] at hchk
          obtain ⟨sl, hsl⟩ : ∃ sl, sl = SB.length := ⟨_, rfl⟩
          rw [← hsl] at hsay
          have HS := Lib.hid (And.intro hSB (And.intro hSE (And.intro hCK hsl)))
          clear hSB hSE hCK hsl hrl hka4
          go_wp2_with (refine wpList_load_blk rfl 27 (.tmp 10) rfl wr.heap.size rfl 27 _ _ hk4 Tryd.underlying27 rfl infoM16 ?_)
          refine hsay.mono ?_
          rintro e w5 ⟨A3, c3, v5, rfl, hown5, hv5, hb5⟩
          have hbw5 := hbw4.trans (hb5.mono hbw4.size)
          have hb35 := hb34.trans (hb5.mono hb34.size)
          have hk5 := hk4.stay hb5
          clear hsay hk4 hb34 hb5
          go_wp2_with (refine wpList_load_blk rfl 27 (.tmp 10) rfl wr.heap.size rfl 27 _ _ hk5 Tryd.underlying27 rfl infoM16 ?_)
          refine (hchk w5 hbw5).mono ?_
          rintro e w6 ⟨rfl, hb6⟩
          have hbw6 := hbw5.trans (hb6.mono hbw5.size)
          have hb36 := hb35.trans (hb6.mono hb35.size)
          have hk6 := hk5.stay hb6
          have hown6 := hown5.below hb6
          have hob6 := hob.below hb36
          have hmo6 := hmo.below hb36
          have hbw16 := hbw.trans (hb36.mono hbw.size)
          have hb6' := hb6
          clear hchk hk5 hb35 hb6 hown5
          by_cases h0 : CK = 0
          · subst h0
            obtain ⟨hfr, hsl⟩ := sayB_fr HS.out.2.2.1.symm
            rw [← HS.out.1] at hfr hsl
            rw [← HS.out.2.2.2] at hsl
            have hse := HS.out.2.1.trans (sayE_ok HS.out.2.2.1.symm)
            subst hse
            obtain rfl : v5 = .nilIface := hv5
            have hpl := fun W (hb : Below w.heap.size w W) => rplain_any w.heap.size p.m p.A p.c p.A2 p.c2 W (HP.out.2.1.below hb)
            obtain ⟨q, hqm', hqV, hqM⟩ := (plV_msg HP.out.2.1 (Below.refl _ _) (plain_parts p.m).1 (plain_parts p.m).2).mp
            rw [hqV, Mp.v_eq] at hpl
            have hpl' : ∀ W, Below w.heap.size w W → Calls Tryd.prog 18 #[.agg p.cells.toArray] W fun e w' => e = .returned (.agg q.cells.toArray) ∧ Below W.heap.size W w' := fun W hb => (hpl W hb).mono fun e w' ⟨h1, _, h2⟩ => ⟨h1, h2⟩
            have HQ := Lib.hid (And.intro hfr (And.intro hqm' hqM))
            have q1 : nb + sl ≤ 140737488355328 := by omega
            have q2 : (nw + 1) * 168 ≤ 140737488355328 := by omega
            have q3 : nw + 1 ≤ maxLen := by unfold maxLen; omega
            have Q := Lib.hid (And.intro q1 (And.intro q2 q3))
            have HB := Lib.hid (And.intro hob6 hmo6)
            clear hpl hqV hfr hqm' hqM q1 q2 q3 hob hmo hob6 hmo6
            go_wp2_with (first
              | (at_builtin
                 refine wpList_app bt rfl (.tmp 52) (.tmp 53) rfl w1.heap.size A7 nb c7 _ rfl HB.out.1 _ A3 sl c3 SB rfl hown6.bs Q.out.1 (hbw16.size) ?_
                 intro A9 c9 w7 hown7 hg7 hat7
                 have hbb7 := below_of_grown hbw16 hbw16.size HB.out.1 (Nat.le_refl _) hg7
                 have hk7 := hk6.grown hg7 (hk6.row_ne HB.out.1 (by decide))
                 have hbw7 := hbw1.trans (hbb7.mono hbw1.size))
              | (refine wpList_load_blk rfl 27 (.tmp 10) rfl wr.heap.size rfl 27 _ _ hk7 Tryd.underlying27 rfl infoM16 ?_)
              | (go_at_call 18
                 refine (hpl' w7 hbw7).mono ?_
                 rintro e w8 ⟨rfl, hb8⟩)
              | (refine wpList_buildM rfl Tryd.underlying66 infoMsg (.tmp 57) rfl q rfl ?_)
              | (at_builtin
                 have hmo7 : MO w7 w1.heap.size A8 nw c8 qs := ⟨HB.out.2.1.kept hg7 (rows_apart HB.out.2.1 HB.out.1 (by decide)), HB.out.2.2⟩
                 have hmoA := (hmo7.below hb8).below (alloc_b w8 (.cells q.cells.toArray 27))
                 have hobA := (hown7.below hb8).alloc (.cells q.cells.toArray 27)
                 have hbb8 := (hbb7.trans (hb8.mono hbb7.size)).trans ((alloc_b w8 (.cells q.cells.toArray 27)).mono (hbb7.trans (hb8.mono hbb7.size)).size)
                 refine wpList_appG (by decide) Tryd.underlying66 infoMsg rfl rfl (.tmp 55) (.tmp 58) rfl w1.heap.size A8 nw c8 (mps qs) rfl hmoA.1 (some ⟨w8.heap.size, 0, none⟩) 1 1 q.cells rfl rfl (fun _ => ⟨w8.heap.size, 0, rfl, mnew_cells w8 _ q⟩) q.cells_one Q.out.2.1 Q.out.2.2 hbb8.size ?_
                 intro A10 c10 w9 hown9 hg9 hat9))
            have hbb9 : Below w1.heap.size w1 w9 := below_row hbb8 hbb8.size hmoA.1 (Nat.le_refl _) hg9
            have hob9 : Own w9 w1.heap.size 5 A9 (nb + sl) c9 (frames (es33 (ps.take k)) ++ SB) := World.ownsRow.kept hobA hg9 (rows_apart hobA hmoA.1 (by decide))
            obtain ⟨he1, he2⟩ := es33_yes HP.out.1 HS.out.2.2.1.symm
            go_roundg (gk - 1)
            case measure => omega
            case rel =>
              refine ⟨k + 1, nb + sl, nw + 1, A9, c9, A10, c10, qs ++ [q], by omega, by go_num, rfl, rfl, ?_, ⟨by rw [mps_append, mps_one]; exact hown9, by simp [hmoA.2]⟩, ?_, ?_, by omega, by omega, hbb9⟩
              · rw [he1, frames_snoc, ← HQ.out.1]; exact hob9
              · rw [he2, List.map_append, hqm]
                simp [HQ.out.2.1]
              · intro z hz
                rcases List.mem_append.1 hz with hz | hz
                · exact hqv z hz
                · simp only [List.mem_singleton] at hz
                  subst hz
                  exact HQ.out.2.2
          · have hc0 : Ms.check p.m ≠ 0 := by rw [← HS.out.2.2.1]; exact h0
            have hff2 : ((CK : Int) != 0) = true := by rw [bne_iff_ne]; omega
            have hff : ((CK : Int) == 0) = false := by rw [beq_eq_false_iff_ne]; omega
            obtain ⟨hsb, hse⟩ := say_no hc0
            rw [← HS.out.1] at hsb
            rw [← HS.out.2.1] at hse
            have hv6 := ErV.below hb6' hv5
            rw [hse] at hv6
            obtain ⟨T, xv, rfl⟩ := ErVn.iface hv6 (by simp)
            obtain rfl : sl = 0 := by rw [HS.out.2.2.2, hsb]; rfl
            obtain ⟨he1, he2⟩ := es33_no HP.out.1 hc0
            clear hse hsb hv5 hv6 hc0
            go_wp2_with fail
            go_roundg (gk - 1)
            case measure => omega
            case rel =>
              refine ⟨k + 1, nb, nw, A7, c7, A8, c8, qs, by omega, by go_num, rfl, rfl, by rw [he1]; exact hob6, hmo6, by rw [he2]; exact hqm, hqv, by omega, by omega, hbw16⟩
      · obtain rfl : k = n0 := by omega
        obtain ⟨wm, rfl⟩ : ∃ wm, wm = wr := ⟨_, rfl⟩
        have hes : ps.take k = ps := List.take_of_length_le (by rw [h.1]; exact Nat.le_refl _)
        have hpsl := h.1
        rw [hes] at hob hqm
        have hwfs : ∀ p ∈ ps, Ms.Wf p.m := fun p hp => (HPS.out p hp).2.1
        have heok := es33_ok hwfs
        have hepl := es33_pl hwfs
        have hel : (es33 ps).length ≤ 30 := by unfold es33; rw [List.length_map]; exact Nat.le_trans (List.length_filter_le _ _) (by omega)
        obtain ⟨es, hES⟩ : ∃ es, es = es33 ps := ⟨_, rfl⟩
        rw [← hES] at hob heok hepl hel
        have HE := Lib.hid (And.intro heok (And.intro (hepl.trans hqm.symm) hel))
        have hkbr := hkb.below hbw
        have hTr := hT.stay hbwr
        have hbsr := hob.bs
        have hcr := hob.le
        have hoff : Off gb A7 nb := fun hn a ha => by
          obtain ⟨g, e, hge, _⟩ := hob.form hn
          rw [ha] at e; injection e with e; subst e; simp only; omega
        have hgbr : gb < wm.heap.size := Nat.lt_of_lt_of_le hgb0 hbw.size
        have hxl := x.toNat_lt
        have i1 : IntKind.i64.wrap (1 + (x.toNat : Int)) = 1 + (x.toNat : Int) := IntWalk.i64_in _ (by omega)
        clear hes hwfs heok hepl hel hES hob hqm hpsl
        go_wp2_with fail
        go_loopg [7, 13] nb (fun rem vb vg wr => BackAt wm gb es rem vb vg wr)
        case atStart => exact ⟨[], frames es, A7, c7, 0, none, 0, [], [], es, rfl, hbsr, hcr, hoff, rfl, MO.nil _ _, rfl, rfl, by simp, hkbr, part_nil, rfl, World.grownBy.refl _ _⟩
        case round =>
          obtain ⟨P, bs, A7', c7', ng, A13, c13, gs, es1, es2, rfl, hbs, hc7, hoff7, rfl, hmog, hess, hgm, hgv, hkx, hP, hfr, hgr⟩ := hrel
          have hgl := hmog.2
          have hel1 : es1.length ≤ 30 ∧ es2.length ≤ 30 := by
            have h1 := HE.out.2.2
            rw [hess, List.length_append] at h1
            omega
          have hngl : ng = es1.length := by
            have h1 := congrArg List.length hgm
            simp only [List.length_map] at h1
            omega
          have hes2 : ∀ p ∈ es2, p.length ≤ 1400 ∧ (Ms.readP p).2 = 0 := fun p hp => HE.out.1 p (by rw [hess]; exact List.mem_append_right _ hp)
          have HF := Lib.hid (And.intro hess (And.intro hgm hfr))
          have hng30 : ng ≤ 30 := by omega
          have HNG := Lib.hid (And.intro hngl (And.intro hgl hel1))
          clear hess hgm hfr hngl hgl hel1
          by_cases hlt2 : 0 < gk
          · obtain ⟨m, hm⟩ : ∃ m, m = min (1 + x.toNat) gk := ⟨_, rfl⟩
            have hmk : (if (gk : Int) < 1 + (x.toNat : Int) then (gk : Int) else 1 + (x.toNat : Int)) = (m : Int) := by split <;> omega
            have hm1 : 1 ≤ m := by omega
            have hm2 : m ≤ gk := by omega
            have hm3 : m ≤ 256 := by omega
            have j1 : (m : Int) ≤ (c7' : Int) := by omega
            have j2 : m ≤ c7' := by omega
            have j3 : (m : Int) ≤ (gk : Int) := by omega
            obtain ⟨b7, o7, rfl, hb7, -⟩ := hbs.2 hlt2
            have hbt := (hbs.take hm2).more hgr.size
            have hofft : Off gb (some ⟨b7, o7, none⟩) m := fun _ a ha => hoff7 hlt2 a ha
            have hTx := hTr.only' hkbr hgr
            obtain ⟨o, r, e, hgo⟩ := Goes.all (P ++ bs.take m)
            have hsplit : (P ++ bs.take m) ++ bs.drop m = frames es2 := by rw [List.append_assoc, List.take_append_drop]; exact HF.out.2.2
            obtain ⟨rfl, es3, hes3, hrest⟩ := goes_frames hgo es2 _ (fun p hp => (hes2 p hp).1) hsplit
            have hok : ∀ p ∈ o, (Ms.readP p).2 = 0 := fun p hp => (hes2 p (by rw [hes3]; exact List.mem_append_left _ hp)).2
            have hol : o.length ≤ 30 := by
              have h1 := HNG.out.2.2.2
              rw [hes3, List.length_append] at h1
              omega
            have hfd := lfeed_any gb P wr hkx hP (some ⟨b7, o7, none⟩) m c7' (bs.take m) hbt hofft (by omega) j2 hTx o r 0 hgo hok
            have HG := Lib.hid (And.intro hes3 (And.intro hrest hgo.part))
            have HM := Lib.hid hm
            clear hgo hsplit hes2 hes3 hrest hok hbt hofft hm
            go_wp2_with fail
            refine hfd.mono ?_
            rintro e w5 ⟨A5, c5, xs, v5, rfl, hmo5, hmap5, hms5, hgr5, h50, -⟩
            obtain ⟨rfl, hk5⟩ := h50 rfl
            have hxl5 : xs.length = o.length := by simpa using congrArg List.length hmap5
            obtain ⟨xl, hxl6⟩ : ∃ xl, xl = xs.length := ⟨_, rfl⟩
            rw [← hxl6] at hmo5 hxl5 ⊢
            have q1 : (ng + xl) * 168 ≤ 140737488355328 := by omega
            have q2 : ng + xl ≤ maxLen := by unfold maxLen; omega
            have hmog5 : MO w5 wm.heap.size A13 ng c13 gs := hmog.only hgr5 (fun j hj => by injection hj with hj; omega)
            have hms := hmo5.ms
            have q3 : (mps xs).length = xl * 16 := by rw [mps_len, hxl6]
            have q4 : 0 < xl → ∃ b off, A5 = some ⟨b, off, none⟩ ∧ ∀ (j : Nat) u, (mps xs)[j]? = some u → w5.cell? ⟨b, off + j, none⟩ = some u := fun h0 => by
              obtain ⟨b, off, e, _, hc⟩ := hms.2 h0
              exact ⟨b, off, e, hc⟩
            have q5 : wm.heap.size ≤ w5.heap.size := Nat.le_trans hgr.size hgr5.size
            have HX := Lib.hid (And.intro hmap5 (And.intro hms5 (And.intro hxl6 hxl5)))
            have Q := Lib.hid (And.intro q1 (And.intro q2 (And.intro q3 (And.intro q4 q5))))
            clear hfd h50 hmap5 hms5 hms q1 q2 q3 q4 q5 hxl6 hxl5
            go_wp2_with (at_builtin; refine wpList_appG (by decide) Tryd.underlying66 infoMsg rfl rfl (.tmp 79) (.tmp 80) rfl wm.heap.size A13 ng c13 (mps gs) rfl hmog5.1 A5 xl c5 (mps xs) rfl Q.out.2.2.1 Q.out.2.2.2.1 (mps_cells xs) Q.out.1 Q.out.2.1 Q.out.2.2.2.2 ?_; intro A14 c14 w6 hown6 hg6 hat6)
            all_goals
              have hbs5 := ibs_only hbs hgr5 hgr.size hoff7
              have hbs6 := hbs5.grown hg6 Q.out.2.2.2.2 (fun j hj => (hmog5.1.lt j hj).1)
              have hk6 := hk5.grown hg6 (notown hmog5.1 hgbr)
              have hgr6 : wm.grownBy w6 (some gb) := only_own (only_trans hgr hgr5) hmog5.1 hg6
              have hKx : Kept 0 w5 w6 := row_kept hmog5.1 hg6 (by decide) (by decide)
              go_roundg (gk - m)
              case measure => omega
              case rel =>
                refine ⟨r, bs.drop m, _, _, ng + xl, A14, c14, gs ++ xs, es1 ++ o, es3, rfl, ?_, ?_, ?_, rfl, ⟨by rw [mps_append]; exact hown6, by rw [List.length_append, HNG.out.2.1, HX.out.2.2.1]⟩, by rw [HF.out.1, HG.out.1, List.append_assoc], by rw [List.map_append, List.map_append, HF.out.2.1, HX.out.1], ?_, hk6, HG.out.2.2, HG.out.2.1, hgr6⟩
                · first
                  | exact hbs6.drop hm2
                  | (obtain h0 : gk - m = 0 := by omega
                     rw [h0, List.drop_of_length_le (by have := hbs.1; omega)]; exact BS.nil _ _ _)
                · omega
                · first
                  | exact fun hn a ha => by injection ha with ha; subst ha; exact hoff7 hlt2 ⟨b7, o7, none⟩ rfl
                  | (intro h0; exfalso; omega)
                · intro z hz
                  rcases List.mem_append.1 hz with hz | hz
                  · exact (hgv z hz).kept ((hkx.kept0 hgr5).trans hKx)
                  · exact (HX.out.2.1 z hz).kept hKx
          · obtain rfl : gk = 0 := by omega
            have hbs0 : bs = [] := List.eq_nil_of_length_eq_zero hbs.1
            have hfr := HF.out.2.2
            rw [hbs0, List.append_nil] at hfr
            obtain ⟨hz2, rfl⟩ := part_frames (fun p hp => (hes2 p hp).1) hfr hP
            have hes := HF.out.1
            rw [hz2, List.append_nil] at hes
            have hmm : gs.map Mp.m = qs.map Mp.m := by rw [HF.out.2.1, ← hes, HE.out.2.1]
            obtain rfl : ng = nw := by
              have h1 := congrArg List.length hmm
              simp only [List.length_map] at h1
              have := hmo.2
              have := HNG.out.2.1
              omega
            have hbwx : Below w.heap.size w wr := hbwr.grown hgr hbwr.size (fun j hj => by injection hj with hj; have := HGB.out; omega)
            have hmox := hmo.only hgr (fun j hj => by injection hj with hj; omega)
            have hsame := rsame33_any A13 ng c13 A8 c8 gs qs 0 w.heap.size wr hmog.ms hmox.ms hmm hgv (fun q hq => (hqv q hq).below hbwx) (fun q hq => by
              have h1 : q.m ∈ es1.map rdM := by rw [← HF.out.2.1]; exact List.mem_map_of_mem hq
              obtain ⟨e, _, he⟩ := List.mem_map.1 h1
              rw [← he]; exact rdM_rows e) (by omega)
            clear hmm hes hz2 hfr hes2
            go_wp2_with fail
            refine hsame.mono ?_
            rintro e w7 ⟨rfl, hb7⟩
            have hbw7 := hbwx.trans (hb7.mono hbwx.size)
            go_wp2_with fail
            refine (lheld_any gb [] _ (hkx.below hb7)).mono ?_
            rintro e wq ⟨rfl, hwq⟩
            have hwq2 := hwq.symm
            clear hwq
            subst hwq2
            go_wp2_with fail
            refine (lives33_any _ (hT.stay hbw7)).mono ?_
            rintro e w8 ⟨rfl, hb8⟩
            go_wp2_with fail
            go_ret
            exact ⟨rfl, hbw7.trans (hb8.mono hbw7.size)⟩
end Go.Proofs.YthhhiiagppckhaaDoor
end
