/- BlameWraps: its walk; conditions: none beyond its hypotheses. -/
import Derived.Test.YthhhiiagppckhaaDoorBe18
namespace Go.Proofs.YthhhiiagppckhaaDoor
open Go.RowKit Go.Proofs.U Go.Proofs.Bp
set_option linter.unusedVariables false

def WrapsAt (w : World) (base : Nat) (A : Option Addr) (n c : Nat) (ts : List Er) (wr : World) : Prop := OwnE wr base A n c ts ∧ Below base w wr
set_option maxRecDepth 100000 in
set_option maxHeartbeats 32000000 in
theorem blameWraps_any (A : Option Addr) (n c : Nat) (l : List Flt) (so sp : List UInt8) (w : World) (h : FS w A n l) (hr : ∀ x ∈ l, RngF x) (hn : n ≤ maxLen) (hc : n ≤ c) (lo : so.length ≤ 140737488355328) (lp : sp.length ≤ 140737488355328) (hg : ErrT w) :
    Calls Tryd.prog 6 #[.slice A n c, .string (strOf so), .string (strOf sp)] w (Yes w) := by
  obtain ⟨o, ho⟩ : ∃ o, o = strOf so := ⟨_, rfl⟩
  obtain ⟨p, hp⟩ : ∃ p, p = strOf sp := ⟨_, rfl⟩
  have zo : o.size = so.length := by rw [ho, strOf_sz]
  have zp : p.size = sp.length := by rw [hp, strOf_sz]
  rw [← ho, ← hp]
  have bo : o.size ≤ 140737488355328 := by omega
  have bp : p.size ≤ 140737488355328 := by omega
  have hlight := light_any A n c l w h hr hn
  have HS := Lib.hid (And.intro ho hp)
  cases hlb : lightB l with
  | false =>
    rw [hlb] at hlight
    clear ho hp zo zp lo lp hlb
    go_enter Tryd.func6, Tryd.ntmps6
    go_wp2_with fail
    refine hlight.mono ?_
    rintro e w1 ⟨rfl, hb1⟩
    go_wp2_with fail
    refine (lives02 w1 (hg.below hb1)).mono ?_
    rintro e w2 ⟨rfl, hb2⟩
    go_wp2_with fail
    go_ret
    exact ⟨rfl, hb1.trans (hb2.mono hb1.size)⟩
  | true =>
    rw [hlb] at hlight
    unfold lightB at hlb
    rw [Bool.and_eq_true, decide_eq_true_eq] at hlb
    have hok : ∀ x ∈ l, FOk x := fun x hx => fokB_ok.1 (List.all_eq_true.1 hlb.1 x hx)
    have hn10 : n ≤ 10 := by rw [← h.1]; exact hlb.2
    clear hlb
    by_cases hsz : o.size + p.size ≤ 100
    · have d1 : decide ((100 : Int) < (o.size : Int) + (p.size : Int)) = false := decide_eq_false (by omega)
      have hop : so.length + sp.length ≤ 100 := by omega
      have hll := h.1
      obtain ⟨s3, hs3⟩ : ∃ s3, s3 = strOf (so ++ [32]) := ⟨_, rfl⟩
      obtain ⟨s4, hs4⟩ : ∃ s4, s4 = strOf (so ++ 32 :: sp) := ⟨_, rfl⟩
      have x1 : ∀ w', (Op.stringOp .add o ⟨#[32]⟩).run Tryd.prog w' = .ok (.string s3) w' := fun w' => by
        rw [ho, hs3, run_string_add_sum w' _ _ (by rw [strOf_sz]; show so.length + 1 ≤ _; omega)]
        exact congrArg (fun z => Result.ok (Value.string z) w') (strOf_app so [32])
      have x2 : ∀ w', (Op.stringOp .add s3 p).run Tryd.prog w' = .ok (.string s4) w' := fun w' => by
        rw [hp, hs3, hs4, run_string_add_sum w' _ _ (by rw [strOf_sz, strOf_sz]; simp; omega), strOf_app]
        simp
      have HH := Lib.hid (And.intro hok (And.intro hop (And.intro hll (And.intro hs4 hr))))
      have HG := Lib.hid hg
      clear ho hp zo zp lo lp hok hop hll hs3 hs4 hr
      go_enter Tryd.func6, Tryd.ntmps6
      go_wp2_with fail
      refine hlight.mono ?_
      rintro e w1 ⟨rfl, hb1⟩
      clear hlight
      go_wp2_with fail
      refine (made_any A n c l w1 (h.below hb1) HH.out.2.2.2.2 HH.out.1 hn10 (HG.out.below hb1)).mono ?_
      rintro e w2 ⟨A2, c2, rfl, hown2, hb2⟩
      have hbw2 := hb1.trans (hb2.mono hb1.size)
      go_wp2_with fail
      go_loopg [29] n (fun r i wr => ∃ (j : Nat), r + j = n ∧ i = .int .i64 (j : Int) ∧ Below w2.heap.size w2 wr)
      case atStart => exact ⟨0, rfl, rfl, Below.refl _ _⟩
      case round =>
        obtain ⟨j, hgk, rfl, hb3⟩ := hrel
        obtain ⟨wo, rfl⟩ : ∃ wo : World, wo = wr := ⟨_, rfl⟩
        have HJ := Lib.hid hgk
        by_cases hj : j < n
        · clear hgk
          have hgd := good_at l HH.out.1 (j : Int)
          obtain ⟨t, ht⟩ : ∃ t, (madeE l)[j]? = some t := ⟨(madeE l)[j]'(by rw [madeE_len, HH.out.2.2.1]; exact hj), by simp⟩
          have hte : atE (madeE l) (j : Int) = t := by unfold atE; rw [if_neg (by omega), Int.toNat_natCast, ht]; rfl
          rw [hte, HH.out.2.2.1] at hgd
          obtain ⟨g2, v, rfl, hcell, hev⟩ := (hown2.below hb3).at_ ht
          have hbo := hbw2.trans (hb3.mono hbw2.size)
          have hszt : siz t ≤ 1000000 := good_siz hgd hn10
          have hszt1 : siz t + 1 ≤ 1000000 := by
            rw [siz_eq]
            have := Nat.pow_le_pow_right (show 0 < 3 by decide) hn10
            have := hgd.sz
            have e : 3 ^ 10 = 59049 := by decide
            omega
          have hstp := rsteps_any A n c l (j : Int)
          have hcds := rcodes_any A n c l (j : Int)
          have hl3 := fun w' (hb' : Below w.heap.size w w') => hstp w' hn10 ⟨by omega, by omega⟩ (h.below hb') hc HH.out.2.2.2.2 HH.out.1
          have hl4 := fun w' (hb' : Below w.heap.size w w') => hcds w' hn10 ⟨by omega, by omega⟩ (h.below hb') hc HH.out.2.2.2.2 HH.out.1
          rw [hte] at hl3 hl4
          have HL := Lib.hid (And.intro hl3 hl4)
          have hq : j < 1000000 := by omega
          clear hstp hcds hl3 hl4 ht hte
          by_cases hnil : t = .nil
          · subst hnil
            obtain rfl : v = _ := hev
            clear hgd hszt hszt1 HL
            go_wp2_with fail
            refine (wrap_nil o p wo (HG.out.below hbo)).mono ?_
            rintro e w3 ⟨v3, rfl, hv3, hb4⟩
            obtain rfl : v3 = _ := hv3
            have hb34 := hb3.trans (hb4.mono hb3.size)
            go_wp2_with fail
            go_roundg (gk - 1)
            case measure => have := HJ.out; omega
            case rel => exact ⟨j + 1, by have := HJ.out; omega, by go_num, hb34⟩
          · have hkt : t.ok := hgd.ok.resolve_left hnil
            obtain ⟨T, x, rfl⟩ := hev.iface hnil
            have hlt := lt_iff t hgd.lt
            have HT := Lib.hid (And.intro hkt (And.intro hszt (And.intro hlt (And.intro hgd hszt1))))
            clear hkt hszt hszt1 hlt hgd hnil
            go_wp2_with fail
            have hwr := wrap_any (N := fun _ => True) t _ so sp wo HT.out.2.1 HT.out.1 hev (HG.out.below hbo) (fun _ _ => trivial)
            rw [← HS.out.1, ← HS.out.2] at hwr
            refine hwr.mono ?_
            rintro e w3 ⟨v3, rfl, hv3, hb4⟩
            have hv3' := hv3
            obtain ⟨g3, u3, rfl, -, -⟩ := hv3
            have hbw3 := hbo.trans (hb4.mono hbo.size)
            have hb34 := hb3.trans (hb4.mono hb3.size)
            obtain ⟨tw, htw⟩ : ∃ tw, tw = Er.one so sp t := ⟨_, rfl⟩
            rw [← htw] at hv3'
            have HTW := Lib.hid htw
            clear htw
            have hg3 := HG.out.below hbw3
            go_wp2_with fail
            refine (steps_any tw _ w3 (by rw [HTW.out]; exact HT.out.2.2.2.2) (.inr (by rw [HTW.out]; exact HT.out.1)) (by rw [HTW.out]; exact ⟨HH.out.2.1, HT.out.2.2.1⟩) hv3' hg3).mono ?_
            rintro e w4 ⟨A4, n4, c4, hn4, rfl, hown4, hb5⟩
            have hbw4 := hbw3.trans (hb5.mono hbw3.size)
            obtain ⟨g4, rfl, hs0⟩ := hown4.at_ (k := 0) (x := so ++ 32 :: sp) (by rw [HTW.out]; rfl)
            rw [← HH.out.2.2.2.1] at hs0
            have HN4 := Lib.hid hn4
            have hp4 : 0 < n4 := by rw [hn4, HTW.out]; simp [Er.steps]
            have hn4b : n4 ≤ 1000000 := by
              rw [hn4]; exact Nat.le_trans (steps_len tw) (by rw [HTW.out]; exact HT.out.2.2.2.2)
            clear hn4 hown4
            go_wp2_with fail
            refine (HL.out.1 w4 hbw4).mono ?_
            rintro e w5 ⟨A5, n5, c5, hn5, rfl, hown5, hb6⟩
            have hbw5 := hbw4.trans (hb6.mono hbw4.size)
            have hd1 : ((n4 : Int) != (n5 : Int) + 1) = false := by
              have h1 := HN4.out
              rw [HTW.out] at h1
              simp only [Er.steps, List.length_cons] at h1
              simp; omega
            have hn5b : n5 ≤ 1000000 := by rw [hn5]; exact Nat.le_trans (steps_len t) HT.out.2.1
            have hs0' := cell_below hs0 hb6
            clear hn5 hown5 hs0
            go_wp2_with fail
            have hv5 := (hv3'.below hb5).below hb6
            refine (codes_any tw _ w5 (by rw [HTW.out]; exact HT.out.2.2.2.2) (.inr (by rw [HTW.out]; exact HT.out.1)) hv5 (HG.out.below hbw5)).mono ?_
            rintro e w6 ⟨A6, n6, c6, hn6, rfl, hown6, hb7⟩
            have hbw6 := hbw5.trans (hb7.mono hbw5.size)
            have HN6 := Lib.hid hn6
            clear hn6 hown6
            go_wp2_with fail
            refine (HL.out.2 w6 hbw6).mono ?_
            rintro e w7 ⟨A7, n7, c7, hn7, rfl, hown7, hb8⟩
            have hbw7 := hbw6.trans (hb8.mono hbw6.size)
            have hd2 : ((n6 : Int) != (n7 : Int)) = false := by
              have h1 := HN6.out
              rw [HTW.out] at h1
              simp only [Er.codes] at h1
              simp; omega
            clear hn7 hown7
            go_wp2_with fail
            have hv7 := (hv5.below hb7).below hb8
            have hcw := code_any tw _ w7 (by rw [HTW.out]; exact HT.out.2.2.2.2) (.inr (by rw [HTW.out]; exact HT.out.1)) hv7 (HG.out.below hbw7)
            obtain ⟨cc, hcc⟩ : ∃ cc, cc = first0 t.codes := ⟨_, rfl⟩
            have hct : first0 tw.codes = cc := by rw [HTW.out, hcc]; rfl
            rw [hct] at hcw
            have HCC := Lib.hid hcc
            clear hct hcc
            refine hcw.mono ?_
            rintro e w8 ⟨rfl, hb9⟩
            clear hcw
            have hbw8 := hbw7.trans (hb9.mono hbw7.size)
            go_wp2_with fail
            have hbo8 := (((((hb4.trans (hb5.mono hb4.size)).trans (hb6.mono (Nat.le_trans hb4.size hb5.size))).trans (hb7.mono (Nat.le_trans (Nat.le_trans hb4.size hb5.size) hb6.size))).trans (hb8.mono (Nat.le_trans (Nat.le_trans (Nat.le_trans hb4.size hb5.size) hb6.size) hb7.size))).trans (hb9.mono (Nat.le_trans (Nat.le_trans (Nat.le_trans (Nat.le_trans hb4.size hb5.size) hb6.size) hb7.size) hb8.size)))
            have hce := code_any t _ w8 HT.out.2.1 (.inr HT.out.1) (hev.below hbo8) (HG.out.below hbw8)
            rw [← HCC.out] at hce
            refine hce.mono ?_
            rintro e w9 ⟨rfl, hb10⟩
            clear hce
            have hbo9 := hbo8.trans (hb10.mono hbo8.size)
            have hb39 := hb3.trans (hbo9.mono hb3.size)
            go_wp2_with fail
            go_roundg (gk - 1)
            case measure => have := HJ.out; omega
            case rel => exact ⟨j + 1, by have := HJ.out; omega, by go_num, hb39⟩
        · obtain rfl : j = n := by omega
          clear hgk hj
          have hbo := hbw2.trans (hb3.mono hbw2.size)
          have hgo := HG.out.below hbo
          clear hown2
          go_wp2_with fail
          have hwr := wrap_any (N := fun _ => True) (.code 25) _ so sp wo (by decide) (show (25 : Int) ≠ 0 by decide) rfl hgo (fun _ _ => trivial)
          rw [← HS.out.1, ← HS.out.2] at hwr
          refine hwr.mono ?_
          rintro e w3 ⟨v3, rfl, hv3, hb4⟩
          clear hwr
          obtain ⟨tb, htb⟩ : ∃ tb, tb = Er.one so sp (.code 25) := ⟨_, rfl⟩
          have hv3' := hv3
          rw [← htb] at hv3'
          have HTB := Lib.hid htb
          clear htb
          obtain ⟨g3, u3, rfl, -, -⟩ := hv3
          have hbw3 := hbo.trans (hb4.mono hbo.size)
          go_wp2_with fail
          have hb5 := boxed w3 (.cells #[.pointer none] 60)
          have hB5 := BV.new w3 (.pointer none)
          obtain ⟨fb, hfb⟩ : ∃ fb, fb = w3.heap.size := ⟨_, rfl⟩
          rw [← hfb] at hB5 ⊢
          have hfl : w.heap.size ≤ fb := by rw [hfb]; exact hbw3.size
          have hvn : ErVn (fun b => some b ≠ some fb) w3 tb (.iface 60 (.pointer (some ⟨g3, 0, none⟩))) := hv3'.weak (fun b _ hb => by rw [hfb]; intro e; injection e with e; omega)
          have hv4n := hvn.below hb5
          have hbw4 := hbw3.trans (hb5.mono hbw3.size)
          clear hvn hfb
          generalize w3.alloc (.cells #[.pointer none] 60) = w4 at hB5 hv4n hbw4 ⊢
          clear hb5
          refine (As_bv _ fb _ w.heap.size w w4 (HG.out.below hbw4) hB5 hbw4 hfl hbw4.size).mono ?_
          rintro e w5 ⟨rfl, hB6, hbw5, hgr5⟩
          have hv5n := hv4n.grown hgr5 (fun b h => h)
          have cB := hB6.cell
          clear hB5 hv4n hgr5
          go_wp2_with fail
          have hu1 := fun w' (hb' : Below w5.heap.size w5 w') => unwrap_1 so sp (.code 25) g3 w' (by rw [← HTB.out]; exact (hv5n.ev).below hb')
          have HU := Lib.hid hu1
          clear hu1
          refine (HU.out w5 (Below.refl _ _)).mono ?_
          rintro e w6 ⟨b6, off6, c6, u6, rfl, hc6, hv6, hb6⟩
          clear hc6 hv6
          have cB6 := cell_below cB hb6
          go_wp2_with fail
          refine (HU.out w6 hb6).mono ?_
          rintro e w7 ⟨b7, off7, c7, u7, rfl, hc7, hv7, hb7⟩
          obtain rfl : u7 = _ := hv7
          have hb67 := hb6.trans (hb7.mono hb6.size)
          have hbw7 := hbw5.trans (hb67.mono hbw5.size)
          clear cB6
          go_wp2_with fail
          refine (code_any (.code 25) _ w7 (by decide) (.inr (show (25 : Int) ≠ 0 by decide)) rfl (HG.out.below hbw7)).mono ?_
          rintro e w8 ⟨rfl, hb8⟩
          rw [show first0 (Er.code 25).codes = 25 by decide]
          have hb68 := hb67.trans (hb8.mono hb67.size)
          clear hc7
          go_wp2_with fail
          refine (unwrapNil_any w8).mono ?_
          rintro e w9 ⟨rfl, rfl⟩
          go_wp2_with fail
          refine (unwrapNil_err w8).mono ?_
          rintro e w9 ⟨rfl, rfl⟩
          go_wp2_with fail
          have hB8 := hB6.below hb68
          have hv8n := hv5n.below hb68
          have hbw8 := hbw5.trans (hb68.mono hbw5.size)
          clear cB hB6
          have hbo := both_any (N := fun b => some b ≠ some fb) tb (.code 24) _ _ w8 (by rw [HTB.out]; show 1 + 1 ≤ 1000000; decide) (by decide) (.inr (by rw [HTB.out]; exact (show (25 : Int) ≠ 0 by decide))) (.inr (show (24 : Int) ≠ 0 by decide)) hv8n rfl (HG.out.below hbw8) (fun b hb e => by injection e with e; have := Blk.lt hB8; omega)
          rw [HTB.out] at hbo
          refine hbo.mono ?_
          rintro e w9 ⟨v9, rfl, hv9, hb9⟩
          clear hbo
          have hv9' := hv9
          obtain ⟨g9, x9, y9, rfl, -, -, -⟩ := hv9
          have hbw9 := hbw8.trans (hb9.mono hbw8.size)
          have hB9 := hB8.below hb9
          have hv9n := hv8n.below hb9
          clear hB8
          go_wp2_with fail
          refine (As_bv _ fb _ w.heap.size w w9 (HG.out.below hbw9) hB9 hbw9 hfl hbw9.size).mono ?_
          rintro e w10 ⟨rfl, hB10, hbw10, hgr10⟩
          have hv10n := hv9n.grown hgr10 (fun b h => h)
          have hv10b := (ErVn.grown (N := fun b => some b ≠ some fb) hgr10 (fun b h => h) hv9')
          have cB := hB10.cell
          clear hB9 hgr10 hv9n hv9'
          go_wp2_with fail
          have hu2 := fun w' (hb' : Below w10.heap.size w10 w') => unwrap_2 (.one so sp (.code 25)) (.code 24) g9 w' ((hv10b.ev).below hb')
          have HU2 := Lib.hid hu2
          clear hu2 hv10b
          refine (HU2.out w10 (Below.refl _ _)).mono ?_
          rintro e w11 ⟨b11, off11, c11, u11, t11, rfl, -, -, -, -, hb11⟩
          have cB11 := cell_below cB hb11
          go_wp2_with fail
          refine (HU2.out w11 hb11).mono ?_
          rintro e w12 ⟨b12, off12, c12, u12, t12, rfl, -, hc12, -, hv12, hb12⟩
          obtain rfl : t12 = _ := hv12
          have hb112 := hb11.trans (hb12.mono hb11.size)
          have hbw12 := hbw10.trans (hb112.mono hbw10.size)
          clear cB11 cB
          go_wp2_with fail
          refine (code_any (.code 24) _ w12 (by decide) (.inr (show (24 : Int) ≠ 0 by decide)) rfl (HG.out.below hbw12)).mono ?_
          rintro e w13 ⟨rfl, hb13⟩
          rw [show first0 (Er.code 24).codes = 24 by decide]
          have hb113 := hb112.trans (hb13.mono hb112.size)
          have hbw13 := hbw10.trans (hb113.mono hbw10.size)
          clear hc12
          go_wp2_with fail
          refine (steps_any tb _ w13 (by rw [HTB.out]; show 1 + 1 ≤ 1000000; decide) (.inr (by rw [HTB.out]; exact (show (25 : Int) ≠ 0 by decide))) (by rw [HTB.out]; exact ⟨HH.out.2.1, trivial⟩) ((hv10n.below hb113).ev) (HG.out.below hbw13)).mono ?_
          rintro e w14 ⟨A14, n14, c14, hn14, rfl, hown14, hb14⟩
          obtain rfl : n14 = 1 := by rw [hn14, HTB.out]; rfl
          have hbw14 := hbw13.trans (hb14.mono hbw13.size)
          clear hown14 hn14
          go_wp2_with fail
          refine (steps_code 25 w14 (HG.out.below hbw14)).mono ?_
          rintro e w15 ⟨A15, n15, c15, rfl, rfl, hown15, hb15⟩
          rw [show (([] : List (List UInt8)).length : Nat) = 0 by rfl]
          have hbw15 := hbw14.trans (hb15.mono hbw14.size)
          clear hown15
          go_wp2_with fail
          refine (code_any (.code 25) _ w15 (by decide) (.inr (show (25 : Int) ≠ 0 by decide)) rfl (HG.out.below hbw15)).mono ?_
          rintro e w16 ⟨rfl, hb16⟩
          rw [show first0 (Er.code 25).codes = 25 by decide]
          have hbw16 := hbw15.trans (hb16.mono hbw15.size)
          go_wp2_with fail
          refine (wrap_code0 o p w16 (HG.out.below hbw16)).mono ?_
          rintro e w17 ⟨rfl, hb17⟩
          have hbw17 := hbw16.trans (hb17.mono hbw16.size)
          go_wp2_with fail
          refine (lives02 w17 (HG.out.below hbw17)).mono ?_
          rintro e w18 ⟨rfl, hb18⟩
          go_wp2_with fail
          go_ret
          exact ⟨rfl, hbw17.trans (hb18.mono hbw17.size)⟩
    · have d1 : decide ((100 : Int) < (o.size : Int) + (p.size : Int)) = true := decide_eq_true (by omega)
      clear ho hp zo zp lo lp hok hsz
      go_enter Tryd.func6, Tryd.ntmps6
      go_wp2_with fail
      refine hlight.mono ?_
      rintro e w1 ⟨rfl, hb1⟩
      go_wp2_with fail
      refine (lives02 w1 (hg.below hb1)).mono ?_
      rintro e w2 ⟨rfl, hb2⟩
      go_wp2_with fail
      go_ret
      exact ⟨rfl, hb1.trans (hb2.mono hb1.size)⟩
end Go.Proofs.YthhhiiagppckhaaDoor
