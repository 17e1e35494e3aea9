/- Faults: the errors that are made of them, walked; conditions: none beyond their hypotheses. -/
import Derived.Test.YthhhiiagppckhaaDoorBe15
namespace Go.Proofs.YthhhiiagppckhaaDoor
open Go.RowKit Go.Proofs.U Go.Proofs.Bp
set_option linter.unusedVariables false

theorem at_nil {N : Nat → Prop} {w w' : World} {t : Er} {e : Ending} (h : AtRet N w t e w') (ht : t = .nil) : e = .returned .nilIface ∧ ErVn N w t .nilIface ∧ w = w' := by
  obtain ⟨v, he, hv, hw⟩ := h; subst ht; obtain rfl : v = _ := hv; exact ⟨he, rfl, hw⟩
theorem at_nn {N : Nat → Prop} {w w' : World} {t : Er} {e : Ending} (h : AtRet N w t e w') (ht : t ≠ .nil) : ∃ T x, e = .returned (.iface T x) ∧ ErVn N w t (.iface T x) ∧ w = w' := by
  obtain ⟨v, he, hv, hw⟩ := h; obtain ⟨T, x, rfl⟩ := hv.iface ht; exact ⟨T, x, he, hv, hw⟩
theorem er_nil {N : Nat → Prop} {w w' : World} {t : Er} {e : Ending} (h : ErRetN N w t e w') (ht : t = .nil) : e = .returned .nilIface ∧ ErVn N w' t .nilIface ∧ Below w.heap.size w w' := by
  obtain ⟨v, he, hv, hw⟩ := h; subst ht; obtain rfl : v = _ := hv; exact ⟨he, rfl, hw⟩
theorem er_nn {N : Nat → Prop} {w w' : World} {t : Er} {e : Ending} (h : ErRetN N w t e w') (ht : t ≠ .nil) : ∃ T x, e = .returned (.iface T x) ∧ ErVn N w' t (.iface T x) ∧ Below w.heap.size w w' := by
  obtain ⟨v, he, hv, hw⟩ := h; obtain ⟨T, x, rfl⟩ := hv.iface ht; exact ⟨T, x, he, hv, hw⟩
theorem both_all {N : Nat → Prop} (a b : Er) (va vb : Value) (w : World) (ha : siz a ≤ 1000000) (hb : siz b ≤ 1000000) (oka : EOk a) (okb : EOk b) (h1 : ErVn N w a va) (h2 : ErVn N w b vb) (hg : ErrT w) (hN : ∀ b, w.heap.size ≤ b → N b) :
    Calls Tryd.prog 34 #[va, vb] w (ErRetN N w (bothE a b)) := by
  rw [← both_eq]; exact both_any a b va vb w ha hb oka okb h1 h2 hg hN

set_option maxRecDepth 100000 in
set_option maxHeartbeats 16000000 in
theorem made_any (A : Option Addr) (n c : Nat) (l : List Flt) (w : World) (h : FS w A n l) (hr : ∀ x ∈ l, RngF x) (hok : ∀ x ∈ l, FOk x) (hn : n ≤ 10) (hgE : ErrT w) :
    Calls Tryd.prog 23 #[.slice A n c] w fun e w' => ∃ A' c', e = .returned (.slice A' n c') ∧ OwnE w' w.heap.size A' n c' (madeE l) ∧ Below w.heap.size w w' := by
  have hl := h.1
  have HL := Lib.hid hl
  have HOK := Lib.hid (And.intro hok hr)
  clear hl hok hr
  go_enter Tryd.func23, Tryd.ntmps23
  go_wp2_with fail
  go_loopg [2, 7] n (fun r out i wr => ∃ (j : Nat) (A' : Option Addr) (c' : Nat), r + j = n ∧ i = .int .i64 (j : Int) ∧ out = .slice A' j c' ∧ OwnE wr w.heap.size A' j c' (madeE (l.take j)) ∧ Below w.heap.size w wr)
  case atStart => exact ⟨0, none, 0, rfl, rfl, rfl, OwnE.nil _ _, Below.refl _ _⟩
  case round =>
    obtain ⟨j, A', c', hgk, rfl, rfl, hown, hb⟩ := hrel
    obtain ⟨wo, rfl⟩ : ∃ wo : World, wo = wr := ⟨_, rfl⟩
    have HJ := Lib.hid hgk
    by_cases hj : j < n
    · clear hgk
      obtain ⟨x, hx⟩ : ∃ x, l[j]? = some x := ⟨l[j]'(by rw [HL.out]; exact hj), by simp⟩
      obtain ⟨b, off, rfl, hlt, c0, c1, c2, c3, c4, c5⟩ := (h.below hb).at_ hx
      obtain ⟨⟨k1, k2⟩, ⟨r1, r2⟩, ⟨a1, a2⟩, ⟨b1, b2⟩, r3, r4⟩ := HOK.out.2 x (List.mem_of_getElem? hx)
      have hfx := HOK.out.1 x (List.mem_of_getElem? hx)
      have hst := madeE_snoc (l.take j) x
      rw [← take_succ_get l j x hx] at hst
      have hgood := Good.made (l.take j) (fun y hy => HOK.out.1 y (List.mem_of_mem_take hy))
      have htl : (l.take j).length = j := by rw [List.length_take, HL.out]; omega
      rw [htl] at hgood
      obtain ⟨out, hout⟩ : ∃ out, out = madeE (l.take j) := ⟨_, rfl⟩
      rw [← hout] at hst hgood hown
      obtain ⟨xk, xc, xo, xp, xa, xb⟩ := x
      simp only at c0 c1 c2 c3 c4 c5 k1 k2 r1 r2 a1 a2 b1 b2 r3 r4
      have HX := Lib.hid (And.intro hfx (And.intro hst hgood))
      obtain ⟨so, hso⟩ : ∃ so, so = strOf xo := ⟨_, rfl⟩
      obtain ⟨sp, hsp⟩ : ∃ sp, sp = strOf xp := ⟨_, rfl⟩
      rw [← hso] at c2
      rw [← hsp] at c3
      have HS := Lib.hid (And.intro hso hsp)
      clear hx hst hgood hfx htl hout hso hsp r3 r4
      obtain ⟨vs, hrow, herr⟩ := hown
      have hb1 := boxed wo (.cells #[.int .i64 xk, .int .i64 xc, .string so, .string sp, .int .i64 xa, .int .i64 xb] 120)
      have hk1 : Blk (wo.alloc (.cells #[.int .i64 xk, .int .i64 xc, .string so, .string sp, .int .i64 xa, .int .i64 xb] 120)) wo.heap.size 120 #[.int .i64 xk, .int .i64 xc, .string so, .string sp, .int .i64 xa, .int .i64 xb] := Blk.new _ _ _
      have e0 := hk1.cell 0
      have e1 := hk1.cell 1
      have e2 := hk1.cell 2
      have e3 := hk1.cell 3
      have e4 := hk1.cell 4
      have e5 := hk1.cell 5
      simp only [List.getElem?_toArray, List.getElem?_cons_zero, List.getElem?_cons_succ] at e0 e1 e2 e3 e4 e5
      by_cases hk0 : xk = 0
      · have d0 : (xk == 0) = true := by simpa using hk0
        have HK0 := Lib.hid hk0
        clear hk0
        by_cases hz : xc = 0
        · have HZ := Lib.hid hz
          clear hz
          go_wp2_with fail
          generalize (wo.alloc (.cells #[.int .i64 xk, .int .i64 xc, .string so, .string sp, .int .i64 xa, .int .i64 xb] 120)) = w1 at hb1 hk1 e0 e1 e2 e3 e4 e5 ⊢
          have hrow1 := own_row_below hrow hb1
          have herr1 := herr.below hb1
          have hbw1 := hb.trans (hb1.mono hb.size)
          obtain ⟨N, hN⟩ : ∃ N : Nat → Prop, N = fun b => some b ≠ (Value.slice A' j c').ownBlock := ⟨_, rfl⟩
          rw [← hN] at herr1
          have hj10 : j ≤ 1000 := by omega
          have hat : ∀ (k : Int) w', (-9223372036854775808 ≤ k ∧ k ≤ 9223372036854775807) → Below w1.heap.size w1 w' → Calls Tryd.prog 67 #[.slice A' j c', .int .i64 k] w' (AtRet N w' (atE out k)) := fun k w' hkk hb' => at_any A' j c' vs out k w' hkk (VS.up (ownsRow_vs hrow1) hb') (herr1.below hb') hj10
          have hfr : ∀ b, w1.heap.size ≤ b → N b := by rw [hN]; exact own_fresh hrow1
          have hgd : ∀ k, Bp.Good j (atE out k) := fun k => by
            unfold atE; split
            · exact Bp.Good.nil _
            · cases e : out[k.toNat]? with
              | none => exact Bp.Good.nil _
              | some t' => exact HX.out.2.2 t' (List.mem_of_getElem? e)
          have hRow : ∀ w', Below w1.heap.size w1 w' → w'.ownsRow w.heap.size 48 1 (.slice A' j c') j vs := fun w' hb' => own_row_below hrow1 hb'
          have hwz := hbw1.size
          have hfo := own_fresh hrow wo.heap.size (Nat.le_refl _)
          have hq : (j + 1) * 16 ≤ 140737488355328 := by omega
          have hq2 : j + 1 ≤ maxLen := by unfold maxLen; omega
          have hof : Calls Tryd.prog 66 #[.int .i64 xc, .string so, .string sp] w1 (ErRetN N w1 Er.nil) := by
            have := of_all (N := N) xc xo xp w1 hfr
            rw [HS.out.1, HS.out.2]
            rwa [if_pos HZ.out] at this
          have hse : stepE out ⟨xk, xc, xo, xp, xa, xb⟩ = Er.nil := by unfold stepE; simp only; rw [if_pos HK0.out, if_pos HZ.out]
          have HW := Lib.hid (And.intro hof (And.intro hof (And.intro hse hN)))
          have HB := Lib.hid (And.intro hrow1 (And.intro herr1 hbw1))
          have HR := Lib.hid (And.intro hRow hfo)
          clear hfo hat hof hse hN hrow1 herr1 hbw1 hfr hgd hrow herr hk1 c0 c1 c2 c3 c4 c5 hRow
          go_wp2_with fail
          refine HW.out.1.mono ?_
          rintro e w2 h'
          obtain ⟨rfl, hv2, hb2⟩ := er_nil h' rfl
          have hbz : Below w1.heap.size w1 (w2.alloc (.cells #[.nilIface] 48)) := hb2.trans ((boxed w2 _).mono hb2.size)
          have hrz := HR.out.1 _ hbz
          have hsz := Nat.le_trans hwz hbz.size
          have ho1 : ∀ u ∈ [(.nilIface : Value)], u.oneCell' = true := by simp [Value.oneCell']
          go_wp2_with (at_builtin; refine wpList_appv Tryd.underlying45 infoErr rfl rfl (.tmp 27) (.tmp 35) rfl w.heap.size A' j c' vs rfl hrz _ _ 1 1 [.nilIface] rfl (VS.one w2 (.nilIface) 48) ho1 hq hq2 hsz ?_; intro A5 c5 w5 hown5 hg5 hob5)
          have hvr : ErVn N (w2.alloc (.cells #[.nilIface] 48)) Er.nil (.nilIface) := hv2.below (boxed w2 _)
          have hes := HB.out.2.1.below hbz
          rw [HW.out.2.2.2] at hvr hes
          have happ := OwnE.app hes hvr hg5 hown5 hob5
          have hbw5 := below_row (HB.out.2.2.trans (hbz.mono hwz)) (Nat.le_trans hwz hbz.size) (HR.out.1 _ hbz) (Nat.le_refl _) hg5
          go_roundg (gk - 1)
          case measure => have := HJ.out; omega
          case rel => exact ⟨j + 1, A5, c5, by have := HJ.out; omega, by go_num, rfl, by rw [HX.out.2.1, HW.out.2.2.1]; exact happ, hbw5⟩
        · have HZ := Lib.hid hz
          clear hz
          go_wp2_with fail
          generalize (wo.alloc (.cells #[.int .i64 xk, .int .i64 xc, .string so, .string sp, .int .i64 xa, .int .i64 xb] 120)) = w1 at hb1 hk1 e0 e1 e2 e3 e4 e5 ⊢
          have hrow1 := own_row_below hrow hb1
          have herr1 := herr.below hb1
          have hbw1 := hb.trans (hb1.mono hb.size)
          obtain ⟨N, hN⟩ : ∃ N : Nat → Prop, N = fun b => some b ≠ (Value.slice A' j c').ownBlock := ⟨_, rfl⟩
          rw [← hN] at herr1
          have hj10 : j ≤ 1000 := by omega
          have hat : ∀ (k : Int) w', (-9223372036854775808 ≤ k ∧ k ≤ 9223372036854775807) → Below w1.heap.size w1 w' → Calls Tryd.prog 67 #[.slice A' j c', .int .i64 k] w' (AtRet N w' (atE out k)) := fun k w' hkk hb' => at_any A' j c' vs out k w' hkk (VS.up (ownsRow_vs hrow1) hb') (herr1.below hb') hj10
          have hfr : ∀ b, w1.heap.size ≤ b → N b := by rw [hN]; exact own_fresh hrow1
          have hgd : ∀ k, Bp.Good j (atE out k) := fun k => by
            unfold atE; split
            · exact Bp.Good.nil _
            · cases e : out[k.toNat]? with
              | none => exact Bp.Good.nil _
              | some t' => exact HX.out.2.2 t' (List.mem_of_getElem? e)
          have hRow : ∀ w', Below w1.heap.size w1 w' → w'.ownsRow w.heap.size 48 1 (.slice A' j c') j vs := fun w' hb' => own_row_below hrow1 hb'
          have hwz := hbw1.size
          have hfo := own_fresh hrow wo.heap.size (Nat.le_refl _)
          have hq : (j + 1) * 16 ≤ 140737488355328 := by omega
          have hq2 : j + 1 ≤ maxLen := by unfold maxLen; omega
          have hof : Calls Tryd.prog 66 #[.int .i64 xc, .string so, .string sp] w1 (ErRetN N w1 (Er.one xo xp (.code xc))) := by
            have := of_all (N := N) xc xo xp w1 hfr
            rw [HS.out.1, HS.out.2]
            rwa [if_neg HZ.out] at this
          have hse : stepE out ⟨xk, xc, xo, xp, xa, xb⟩ = (Er.one xo xp (.code xc)) := by unfold stepE; simp only; rw [if_pos HK0.out, if_neg HZ.out]
          have HW := Lib.hid (And.intro hof (And.intro hof (And.intro hse hN)))
          have HB := Lib.hid (And.intro hrow1 (And.intro herr1 hbw1))
          have HR := Lib.hid (And.intro hRow hfo)
          clear hfo hat hof hse hN hrow1 herr1 hbw1 hfr hgd hrow herr hk1 c0 c1 c2 c3 c4 c5 hRow
          go_wp2_with fail
          refine HW.out.1.mono ?_
          rintro e w2 h'
          obtain ⟨T2, x2, rfl, hv2, hb2⟩ := er_nn h' (fun e => by cases e)
          have hbz : Below w1.heap.size w1 (w2.alloc (.cells #[.iface T2 x2] 48)) := hb2.trans ((boxed w2 _).mono hb2.size)
          have hrz := HR.out.1 _ hbz
          have hsz := Nat.le_trans hwz hbz.size
          have ho1 : ∀ u ∈ [(.iface T2 x2 : Value)], u.oneCell' = true := by simp [Value.oneCell']
          go_wp2_with (at_builtin; refine wpList_appv Tryd.underlying45 infoErr rfl rfl (.tmp 27) (.tmp 35) rfl w.heap.size A' j c' vs rfl hrz _ _ 1 1 [.iface T2 x2] rfl (VS.one w2 (.iface T2 x2) 48) ho1 hq hq2 hsz ?_; intro A5 c5 w5 hown5 hg5 hob5)
          have hvr : ErVn N (w2.alloc (.cells #[.iface T2 x2] 48)) (Er.one xo xp (.code xc)) (.iface T2 x2) := hv2.below (boxed w2 _)
          have hes := HB.out.2.1.below hbz
          rw [HW.out.2.2.2] at hvr hes
          have happ := OwnE.app hes hvr hg5 hown5 hob5
          have hbw5 := below_row (HB.out.2.2.trans (hbz.mono hwz)) (Nat.le_trans hwz hbz.size) (HR.out.1 _ hbz) (Nat.le_refl _) hg5
          go_roundg (gk - 1)
          case measure => have := HJ.out; omega
          case rel => exact ⟨j + 1, A5, c5, by have := HJ.out; omega, by go_num, rfl, by rw [HX.out.2.1, HW.out.2.2.1]; exact happ, hbw5⟩
      · by_cases hk1' : xk = 1
        · have d0 : (xk == 0) = false := by simpa using hk0
          have d1 : (xk == 1) = true := by simpa using hk1'
          have HK1 := Lib.hid hk1'
          clear hk1'
          go_wp2_with fail
          generalize (wo.alloc (.cells #[.int .i64 xk, .int .i64 xc, .string so, .string sp, .int .i64 xa, .int .i64 xb] 120)) = w1 at hb1 hk1 e0 e1 e2 e3 e4 e5 ⊢
          have hrow1 := own_row_below hrow hb1
          have herr1 := herr.below hb1
          have hbw1 := hb.trans (hb1.mono hb.size)
          obtain ⟨N, hN⟩ : ∃ N : Nat → Prop, N = fun b => some b ≠ (Value.slice A' j c').ownBlock := ⟨_, rfl⟩
          rw [← hN] at herr1
          have hj10 : j ≤ 1000 := by omega
          have hat : ∀ (k : Int) w', (-9223372036854775808 ≤ k ∧ k ≤ 9223372036854775807) → Below w1.heap.size w1 w' → Calls Tryd.prog 67 #[.slice A' j c', .int .i64 k] w' (AtRet N w' (atE out k)) := fun k w' hkk hb' => at_any A' j c' vs out k w' hkk (VS.up (ownsRow_vs hrow1) hb') (herr1.below hb') hj10
          have hfr : ∀ b, w1.heap.size ≤ b → N b := by rw [hN]; exact own_fresh hrow1
          have hgd : ∀ k, Bp.Good j (atE out k) := fun k => by
            unfold atE; split
            · exact Bp.Good.nil _
            · cases e : out[k.toNat]? with
              | none => exact Bp.Good.nil _
              | some t' => exact HX.out.2.2 t' (List.mem_of_getElem? e)
          have hRow : ∀ w', Below w1.heap.size w1 w' → w'.ownsRow w.heap.size 48 1 (.slice A' j c') j vs := fun w' hb' => own_row_below hrow1 hb'
          have hwz := hbw1.size
          have hfo := own_fresh hrow wo.heap.size (Nat.le_refl _)
          have hq : (j + 1) * 16 ≤ 140737488355328 := by omega
          have hq2 : j + 1 ≤ maxLen := by unfold maxLen; omega
          obtain ⟨t, ht⟩ : ∃ t, t = atE out xa := ⟨_, rfl⟩
          have hat1 := fun w' hb' => hat xa w' ⟨a1, a2⟩ hb'
          have hgt := hgd xa
          rw [← ht] at hat1 hgt
          have hwr : ∀ v w', Below w1.heap.size w1 w' → ErVn N w' t v → Calls Tryd.prog 30 #[v, .string so, .string sp] w' (ErRetN N w' (wrapE t xo xp)) := fun v w' hb' hv => by
            rw [HS.out.1, HS.out.2]
            exact wrap_all t v xo xp w' (good_siz hgt (by omega)) hgt.ok hv (hgE.below (hbw1.trans (hb'.mono hbw1.size))) (fun b hbb => hfr b (Nat.le_trans hb'.size hbb))
          have hse : stepE out ⟨xk, xc, xo, xp, xa, xb⟩ = wrapE t xo xp := by rw [ht]; unfold stepE; simp only; rw [if_neg hk0, if_pos HK1.out]
          have HW := Lib.hid (And.intro hat1 (And.intro hwr (And.intro hse hN)))
          have HB := Lib.hid (And.intro hrow1 (And.intro herr1 hbw1))
          have HR := Lib.hid (And.intro hRow hfo)
          clear hfo hat hat1 hwr hse hN hrow1 herr1 hbw1 ht hfr hgt hgd hrow herr hk1 c0 c1 c2 c3 c4 c5 hRow
          by_cases hnil : t = .nil
          · skip
            have HT := Lib.hid hnil
            have HTR : Hid (wrapE t xo xp = .nil) := Lib.hid (by rw [hnil]; rfl)
            clear hnil
            go_region_held3 (fun w' => w'.cell? ⟨wo.heap.size, 2, none⟩ = some (.string so) ∧ w'.cell? ⟨wo.heap.size, 3, none⟩ = some (.string sp) ∧ w'.cell? ⟨wo.heap.size, 4, none⟩ = some (.int .i64 xa)) (go_keep)
              (first
                | (go_at_call 67; refine (HW.out.1 _ ?_).mono ?_; exact (Below.refl _ _).drew; rintro e w' h'; obtain ⟨rfl, hv1, rfl⟩ := at_nil h' HT.out)
                | (go_at_call 30; refine (HW.out.2.1 _ _ ?_ hv1).mono ?_; exact (Below.refl _ _).drew; rintro e w2 h'; obtain ⟨rfl, hv2, hb2⟩ := er_nil h' HTR.out; have g2 := cell_below (w := w1.drew) e2 hb2; have g3 := cell_below (w := w1.drew) e3 hb2; have g4 := cell_below (w := w1.drew) e4 hb2)
                | (have hbz : Below w1.heap.size w1 (w2.alloc (.cells #[.nilIface] 48)) := ((Below.refl _ _).drew.trans hb2).trans ((boxed w2 _).mono hb2.size)
                   refine step_appv Tryd.underlying45 infoErr rfl rfl _ _ (by rfl) w.heap.size A' j c' vs (by rfl) (HR.out.1 _ hbz) _ _ 1 1 [.nilIface] (by rfl) (VS.one w2 (.nilIface) 48) (by simp [Value.oneCell']) hq hq2 (Nat.le_trans hwz hbz.size) ?_
                   intro A5 c5 w5 hown5 hg5 hob5
                   have kk : ∀ i v, w1.cell? ⟨wo.heap.size, i, none⟩ = some v → w5.cell? ⟨wo.heap.size, i, none⟩ = some v := fun i v hv => (World.cell?_of_block (hg5.block wo.heap.size (Nat.lt_of_lt_of_le (World.block_lt_of_cell? w1 _ hv) hbz.size) HR.out.2)).trans (cell_below hv hbz)
                   have f2 := kk 2 _ e2
                   have f3 := kk 3 _ e3
                   have f4 := kk 4 _ e4
                   clear kk))
            all_goals
              have hvr : ErVn N (w2.alloc (.cells #[.nilIface] 48)) (wrapE t xo xp) (.nilIface) := hv2.below (boxed w2 _)
              have hes := HB.out.2.1.below hbz
              rw [HW.out.2.2.2] at hvr hes
              have happ := OwnE.app hes hvr hg5 hown5 hob5
              have hbw5 := below_row (HB.out.2.2.trans (hbz.mono hwz)) (Nat.le_trans hwz hbz.size) (HR.out.1 _ hbz) (Nat.le_refl _) hg5
              go_wp2_with fail
              go_roundg (gk - 1)
              case measure => have := HJ.out; omega
              case rel => exact ⟨j + 1, A5, c5, by have := HJ.out; omega, by go_num, rfl, by rw [HX.out.2.1, HW.out.2.2.1]; exact happ, hbw5⟩
          · skip
            have HT := Lib.hid hnil
            have HTR : Hid (wrapE t xo xp ≠ .nil) := Lib.hid (by cases t with | nil => exact absurd rfl hnil | _ => exact fun e => by cases e)
            clear hnil
            go_region_held3 (fun w' => w'.cell? ⟨wo.heap.size, 2, none⟩ = some (.string so) ∧ w'.cell? ⟨wo.heap.size, 3, none⟩ = some (.string sp) ∧ w'.cell? ⟨wo.heap.size, 4, none⟩ = some (.int .i64 xa)) (go_keep)
              (first
                | (go_at_call 67; refine (HW.out.1 _ ?_).mono ?_; exact (Below.refl _ _).drew; rintro e w' h'; obtain ⟨T1, x1, rfl, hv1, rfl⟩ := at_nn h' HT.out)
                | (go_at_call 30; refine (HW.out.2.1 _ _ ?_ hv1).mono ?_; exact (Below.refl _ _).drew; rintro e w2 h'; obtain ⟨T2, x2, rfl, hv2, hb2⟩ := er_nn h' HTR.out; have g2 := cell_below (w := w1.drew) e2 hb2; have g3 := cell_below (w := w1.drew) e3 hb2; have g4 := cell_below (w := w1.drew) e4 hb2)
                | (have hbz : Below w1.heap.size w1 (w2.alloc (.cells #[.iface T2 x2] 48)) := ((Below.refl _ _).drew.trans hb2).trans ((boxed w2 _).mono hb2.size)
                   refine step_appv Tryd.underlying45 infoErr rfl rfl _ _ (by rfl) w.heap.size A' j c' vs (by rfl) (HR.out.1 _ hbz) _ _ 1 1 [.iface T2 x2] (by rfl) (VS.one w2 (.iface T2 x2) 48) (by simp [Value.oneCell']) hq hq2 (Nat.le_trans hwz hbz.size) ?_
                   intro A5 c5 w5 hown5 hg5 hob5
                   have kk : ∀ i v, w1.cell? ⟨wo.heap.size, i, none⟩ = some v → w5.cell? ⟨wo.heap.size, i, none⟩ = some v := fun i v hv => (World.cell?_of_block (hg5.block wo.heap.size (Nat.lt_of_lt_of_le (World.block_lt_of_cell? w1 _ hv) hbz.size) HR.out.2)).trans (cell_below hv hbz)
                   have f2 := kk 2 _ e2
                   have f3 := kk 3 _ e3
                   have f4 := kk 4 _ e4
                   clear kk))
            all_goals
              have hvr : ErVn N (w2.alloc (.cells #[.iface T2 x2] 48)) (wrapE t xo xp) (.iface T2 x2) := hv2.below (boxed w2 _)
              have hes := HB.out.2.1.below hbz
              rw [HW.out.2.2.2] at hvr hes
              have happ := OwnE.app hes hvr hg5 hown5 hob5
              have hbw5 := below_row (HB.out.2.2.trans (hbz.mono hwz)) (Nat.le_trans hwz hbz.size) (HR.out.1 _ hbz) (Nat.le_refl _) hg5
              go_wp2_with fail
              go_roundg (gk - 1)
              case measure => have := HJ.out; omega
              case rel => exact ⟨j + 1, A5, c5, by have := HJ.out; omega, by go_num, rfl, by rw [HX.out.2.1, HW.out.2.2.1]; exact happ, hbw5⟩
        · have d0 : (xk == 0) = false := by simpa using hk0
          have d1 : (xk == 1) = false := by simpa using hk1'
          have HK1 := Lib.hid hk1'
          clear hk1'
          go_wp2_with fail
          generalize (wo.alloc (.cells #[.int .i64 xk, .int .i64 xc, .string so, .string sp, .int .i64 xa, .int .i64 xb] 120)) = w1 at hb1 hk1 e0 e1 e2 e3 e4 e5 ⊢
          have hrow1 := own_row_below hrow hb1
          have herr1 := herr.below hb1
          have hbw1 := hb.trans (hb1.mono hb.size)
          obtain ⟨N, hN⟩ : ∃ N : Nat → Prop, N = fun b => some b ≠ (Value.slice A' j c').ownBlock := ⟨_, rfl⟩
          rw [← hN] at herr1
          have hj10 : j ≤ 1000 := by omega
          have hat : ∀ (k : Int) w', (-9223372036854775808 ≤ k ∧ k ≤ 9223372036854775807) → Below w1.heap.size w1 w' → Calls Tryd.prog 67 #[.slice A' j c', .int .i64 k] w' (AtRet N w' (atE out k)) := fun k w' hkk hb' => at_any A' j c' vs out k w' hkk (VS.up (ownsRow_vs hrow1) hb') (herr1.below hb') hj10
          have hfr : ∀ b, w1.heap.size ≤ b → N b := by rw [hN]; exact own_fresh hrow1
          have hgd : ∀ k, Bp.Good j (atE out k) := fun k => by
            unfold atE; split
            · exact Bp.Good.nil _
            · cases e : out[k.toNat]? with
              | none => exact Bp.Good.nil _
              | some t' => exact HX.out.2.2 t' (List.mem_of_getElem? e)
          have hRow : ∀ w', Below w1.heap.size w1 w' → w'.ownsRow w.heap.size 48 1 (.slice A' j c') j vs := fun w' hb' => own_row_below hrow1 hb'
          have hwz := hbw1.size
          have hfo := own_fresh hrow wo.heap.size (Nat.le_refl _)
          have hq : (j + 1) * 16 ≤ 140737488355328 := by omega
          have hq2 : j + 1 ≤ maxLen := by unfold maxLen; omega
          obtain ⟨ta, hta⟩ : ∃ t, t = atE out xa := ⟨_, rfl⟩
          obtain ⟨tb, htb⟩ : ∃ t, t = atE out xb := ⟨_, rfl⟩
          have hat1 := fun w' hb' => hat xa w' ⟨a1, a2⟩ hb'
          have hat2 := fun w' hb' => hat xb w' ⟨b1, b2⟩ hb'
          have hga := hgd xa
          have hgb := hgd xb
          rw [← hta] at hat1 hga
          rw [← htb] at hat2 hgb
          have hbo : ∀ va vb w', Below w1.heap.size w1 w' → ErVn N w' ta va → ErVn N w' tb vb → Calls Tryd.prog 34 #[va, vb] w' (ErRetN N w' (bothE ta tb)) := fun va vb w' hb' h1 h2 =>
            both_all ta tb va vb w' (good_siz hga (by omega)) (good_siz hgb (by omega)) hga.ok hgb.ok h1 h2 (hgE.below (hbw1.trans (hb'.mono hbw1.size))) (fun b hbb => hfr b (Nat.le_trans hb'.size hbb))
          have hse : stepE out ⟨xk, xc, xo, xp, xa, xb⟩ = bothE ta tb := by rw [hta, htb]; unfold stepE; simp only; rw [if_neg hk0, if_neg HK1.out]
          have HW := Lib.hid (And.intro (And.intro hat1 hat2) (And.intro hbo (And.intro hse hN)))
          have HB := Lib.hid (And.intro hrow1 (And.intro herr1 hbw1))
          have HR := Lib.hid (And.intro hRow hfo)
          clear hfo hat hat1 hat2 hbo hse hN hrow1 herr1 hbw1 hta htb hfr hga hgb hgd hrow herr hk1 c0 c1 c2 c3 c4 c5 hRow
          by_cases hna : ta = .nil
          all_goals by_cases hnb : tb = .nil
          · skip
            have HTA := Lib.hid hna
            have HTB := Lib.hid hnb
            have HTR : Hid (bothE ta tb = .nil) := Lib.hid (by rw [hna, hnb]; rfl)
            clear hna hnb
            go_region_held3 (fun w' => w'.cell? ⟨wo.heap.size, 4, none⟩ = some (.int .i64 xa) ∧ w'.cell? ⟨wo.heap.size, 5, none⟩ = some (.int .i64 xb)) (go_keep)
              (first
                | (go_at_call 67; ((with_reducible refine (HW.out.1.1 _ ?_).mono ?_); exact (Below.refl _ _).drew; rintro e w' h'; obtain ⟨rfl, hva, rfl⟩ := at_nil h' HTA.out))
                | (go_at_call 67; ((with_reducible refine (HW.out.1.2 _ ?_).mono ?_); exact (Below.refl _ _).drew; rintro e w' h'; obtain ⟨rfl, hvb, rfl⟩ := at_nil h' HTB.out))
                | (go_at_call 34; refine (HW.out.2.1 _ _ _ ?_ hva hvb).mono ?_; exact (Below.refl _ _).drew; rintro e w2 h'; obtain ⟨rfl, hv2, hb2⟩ := er_nil h' HTR.out; have g4 := cell_below (w := w1.drew) e4 hb2; have g5 := cell_below (w := w1.drew) e5 hb2)
                | (have hbz : Below w1.heap.size w1 (w2.alloc (.cells #[.nilIface] 48)) := ((Below.refl _ _).drew.trans hb2).trans ((boxed w2 _).mono hb2.size)
                   refine step_appv Tryd.underlying45 infoErr rfl rfl _ _ (by rfl) w.heap.size A' j c' vs (by rfl) (HR.out.1 _ hbz) _ _ 1 1 [.nilIface] (by rfl) (VS.one w2 (.nilIface) 48) (by simp [Value.oneCell']) hq hq2 (Nat.le_trans hwz hbz.size) ?_
                   intro A5 c5 w5 hown5 hg5 hob5
                   have kk : ∀ i v, w1.cell? ⟨wo.heap.size, i, none⟩ = some v → w5.cell? ⟨wo.heap.size, i, none⟩ = some v := fun i v hv => (World.cell?_of_block (hg5.block wo.heap.size (Nat.lt_of_lt_of_le (World.block_lt_of_cell? w1 _ hv) hbz.size) HR.out.2)).trans (cell_below hv hbz)
                   have f4 := kk 4 _ e4
                   have f5 := kk 5 _ e5
                   clear kk))
            all_goals
              have hvr : ErVn N (w2.alloc (.cells #[.nilIface] 48)) (bothE ta tb) (.nilIface) := hv2.below (boxed w2 _)
              have hes := HB.out.2.1.below hbz
              rw [HW.out.2.2.2] at hvr hes
              have happ := OwnE.app hes hvr hg5 hown5 hob5
              have hbw5 := below_row (HB.out.2.2.trans (hbz.mono hwz)) (Nat.le_trans hwz hbz.size) (HR.out.1 _ hbz) (Nat.le_refl _) hg5
              go_wp2_with fail
              go_roundg (gk - 1)
              case measure => have := HJ.out; omega
              case rel => exact ⟨j + 1, A5, c5, by have := HJ.out; omega, by go_num, rfl, by rw [HX.out.2.1, HW.out.2.2.1]; exact happ, hbw5⟩
          · skip
            have HTA := Lib.hid hna
            have HTB := Lib.hid hnb
            have HTR : Hid (bothE ta tb ≠ .nil) := Lib.hid (by
              cases ta with
              | nil => cases tb with
                | nil => first | exact absurd rfl hna | exact absurd rfl hnb
                | _ => exact fun e => by cases e
              | _ => cases tb with
                | nil => exact fun e => by cases e
                | _ => exact fun e => by cases e)
            clear hna hnb
            go_region_held3 (fun w' => w'.cell? ⟨wo.heap.size, 4, none⟩ = some (.int .i64 xa) ∧ w'.cell? ⟨wo.heap.size, 5, none⟩ = some (.int .i64 xb)) (go_keep)
              (first
                | (go_at_call 67; ((with_reducible refine (HW.out.1.1 _ ?_).mono ?_); exact (Below.refl _ _).drew; rintro e w' h'; obtain ⟨rfl, hva, rfl⟩ := at_nil h' HTA.out))
                | (go_at_call 67; ((with_reducible refine (HW.out.1.2 _ ?_).mono ?_); exact (Below.refl _ _).drew; rintro e w' h'; obtain ⟨T3, x3, rfl, hvb, rfl⟩ := at_nn h' HTB.out))
                | (go_at_call 34; refine (HW.out.2.1 _ _ _ ?_ hva hvb).mono ?_; exact (Below.refl _ _).drew; rintro e w2 h'; obtain ⟨T2, x2, rfl, hv2, hb2⟩ := er_nn h' HTR.out; have g4 := cell_below (w := w1.drew) e4 hb2; have g5 := cell_below (w := w1.drew) e5 hb2)
                | (have hbz : Below w1.heap.size w1 (w2.alloc (.cells #[.iface T2 x2] 48)) := ((Below.refl _ _).drew.trans hb2).trans ((boxed w2 _).mono hb2.size)
                   refine step_appv Tryd.underlying45 infoErr rfl rfl _ _ (by rfl) w.heap.size A' j c' vs (by rfl) (HR.out.1 _ hbz) _ _ 1 1 [.iface T2 x2] (by rfl) (VS.one w2 (.iface T2 x2) 48) (by simp [Value.oneCell']) hq hq2 (Nat.le_trans hwz hbz.size) ?_
                   intro A5 c5 w5 hown5 hg5 hob5
                   have kk : ∀ i v, w1.cell? ⟨wo.heap.size, i, none⟩ = some v → w5.cell? ⟨wo.heap.size, i, none⟩ = some v := fun i v hv => (World.cell?_of_block (hg5.block wo.heap.size (Nat.lt_of_lt_of_le (World.block_lt_of_cell? w1 _ hv) hbz.size) HR.out.2)).trans (cell_below hv hbz)
                   have f4 := kk 4 _ e4
                   have f5 := kk 5 _ e5
                   clear kk))
            all_goals
              have hvr : ErVn N (w2.alloc (.cells #[.iface T2 x2] 48)) (bothE ta tb) (.iface T2 x2) := hv2.below (boxed w2 _)
              have hes := HB.out.2.1.below hbz
              rw [HW.out.2.2.2] at hvr hes
              have happ := OwnE.app hes hvr hg5 hown5 hob5
              have hbw5 := below_row (HB.out.2.2.trans (hbz.mono hwz)) (Nat.le_trans hwz hbz.size) (HR.out.1 _ hbz) (Nat.le_refl _) hg5
              go_wp2_with fail
              go_roundg (gk - 1)
              case measure => have := HJ.out; omega
              case rel => exact ⟨j + 1, A5, c5, by have := HJ.out; omega, by go_num, rfl, by rw [HX.out.2.1, HW.out.2.2.1]; exact happ, hbw5⟩
          · skip
            have HTA := Lib.hid hna
            have HTB := Lib.hid hnb
            have HTR : Hid (bothE ta tb ≠ .nil) := Lib.hid (by
              cases ta with
              | nil => cases tb with
                | nil => first | exact absurd rfl hna | exact absurd rfl hnb
                | _ => exact fun e => by cases e
              | _ => cases tb with
                | nil => exact fun e => by cases e
                | _ => exact fun e => by cases e)
            clear hna hnb
            go_region_held3 (fun w' => w'.cell? ⟨wo.heap.size, 4, none⟩ = some (.int .i64 xa) ∧ w'.cell? ⟨wo.heap.size, 5, none⟩ = some (.int .i64 xb)) (go_keep)
              (first
                | (go_at_call 67; ((with_reducible refine (HW.out.1.1 _ ?_).mono ?_); exact (Below.refl _ _).drew; rintro e w' h'; obtain ⟨T1, x1, rfl, hva, rfl⟩ := at_nn h' HTA.out))
                | (go_at_call 67; ((with_reducible refine (HW.out.1.2 _ ?_).mono ?_); exact (Below.refl _ _).drew; rintro e w' h'; obtain ⟨rfl, hvb, rfl⟩ := at_nil h' HTB.out))
                | (go_at_call 34; refine (HW.out.2.1 _ _ _ ?_ hva hvb).mono ?_; exact (Below.refl _ _).drew; rintro e w2 h'; obtain ⟨T2, x2, rfl, hv2, hb2⟩ := er_nn h' HTR.out; have g4 := cell_below (w := w1.drew) e4 hb2; have g5 := cell_below (w := w1.drew) e5 hb2)
                | (have hbz : Below w1.heap.size w1 (w2.alloc (.cells #[.iface T2 x2] 48)) := ((Below.refl _ _).drew.trans hb2).trans ((boxed w2 _).mono hb2.size)
                   refine step_appv Tryd.underlying45 infoErr rfl rfl _ _ (by rfl) w.heap.size A' j c' vs (by rfl) (HR.out.1 _ hbz) _ _ 1 1 [.iface T2 x2] (by rfl) (VS.one w2 (.iface T2 x2) 48) (by simp [Value.oneCell']) hq hq2 (Nat.le_trans hwz hbz.size) ?_
                   intro A5 c5 w5 hown5 hg5 hob5
                   have kk : ∀ i v, w1.cell? ⟨wo.heap.size, i, none⟩ = some v → w5.cell? ⟨wo.heap.size, i, none⟩ = some v := fun i v hv => (World.cell?_of_block (hg5.block wo.heap.size (Nat.lt_of_lt_of_le (World.block_lt_of_cell? w1 _ hv) hbz.size) HR.out.2)).trans (cell_below hv hbz)
                   have f4 := kk 4 _ e4
                   have f5 := kk 5 _ e5
                   clear kk))
            all_goals
              have hvr : ErVn N (w2.alloc (.cells #[.iface T2 x2] 48)) (bothE ta tb) (.iface T2 x2) := hv2.below (boxed w2 _)
              have hes := HB.out.2.1.below hbz
              rw [HW.out.2.2.2] at hvr hes
              have happ := OwnE.app hes hvr hg5 hown5 hob5
              have hbw5 := below_row (HB.out.2.2.trans (hbz.mono hwz)) (Nat.le_trans hwz hbz.size) (HR.out.1 _ hbz) (Nat.le_refl _) hg5
              go_wp2_with fail
              go_roundg (gk - 1)
              case measure => have := HJ.out; omega
              case rel => exact ⟨j + 1, A5, c5, by have := HJ.out; omega, by go_num, rfl, by rw [HX.out.2.1, HW.out.2.2.1]; exact happ, hbw5⟩
          · skip
            have HTA := Lib.hid hna
            have HTB := Lib.hid hnb
            have HTR : Hid (bothE ta tb ≠ .nil) := Lib.hid (by
              cases ta with
              | nil => cases tb with
                | nil => first | exact absurd rfl hna | exact absurd rfl hnb
                | _ => exact fun e => by cases e
              | _ => cases tb with
                | nil => exact fun e => by cases e
                | _ => exact fun e => by cases e)
            clear hna hnb
            go_region_held3 (fun w' => w'.cell? ⟨wo.heap.size, 4, none⟩ = some (.int .i64 xa) ∧ w'.cell? ⟨wo.heap.size, 5, none⟩ = some (.int .i64 xb)) (go_keep)
              (first
                | (go_at_call 67; ((with_reducible refine (HW.out.1.1 _ ?_).mono ?_); exact (Below.refl _ _).drew; rintro e w' h'; obtain ⟨T1, x1, rfl, hva, rfl⟩ := at_nn h' HTA.out))
                | (go_at_call 67; ((with_reducible refine (HW.out.1.2 _ ?_).mono ?_); exact (Below.refl _ _).drew; rintro e w' h'; obtain ⟨T3, x3, rfl, hvb, rfl⟩ := at_nn h' HTB.out))
                | (go_at_call 34; refine (HW.out.2.1 _ _ _ ?_ hva hvb).mono ?_; exact (Below.refl _ _).drew; rintro e w2 h'; obtain ⟨T2, x2, rfl, hv2, hb2⟩ := er_nn h' HTR.out; have g4 := cell_below (w := w1.drew) e4 hb2; have g5 := cell_below (w := w1.drew) e5 hb2)
                | (have hbz : Below w1.heap.size w1 (w2.alloc (.cells #[.iface T2 x2] 48)) := ((Below.refl _ _).drew.trans hb2).trans ((boxed w2 _).mono hb2.size)
                   refine step_appv Tryd.underlying45 infoErr rfl rfl _ _ (by rfl) w.heap.size A' j c' vs (by rfl) (HR.out.1 _ hbz) _ _ 1 1 [.iface T2 x2] (by rfl) (VS.one w2 (.iface T2 x2) 48) (by simp [Value.oneCell']) hq hq2 (Nat.le_trans hwz hbz.size) ?_
                   intro A5 c5 w5 hown5 hg5 hob5
                   have kk : ∀ i v, w1.cell? ⟨wo.heap.size, i, none⟩ = some v → w5.cell? ⟨wo.heap.size, i, none⟩ = some v := fun i v hv => (World.cell?_of_block (hg5.block wo.heap.size (Nat.lt_of_lt_of_le (World.block_lt_of_cell? w1 _ hv) hbz.size) HR.out.2)).trans (cell_below hv hbz)
                   have f4 := kk 4 _ e4
                   have f5 := kk 5 _ e5
                   clear kk))
            all_goals
              have hvr : ErVn N (w2.alloc (.cells #[.iface T2 x2] 48)) (bothE ta tb) (.iface T2 x2) := hv2.below (boxed w2 _)
              have hes := HB.out.2.1.below hbz
              rw [HW.out.2.2.2] at hvr hes
              have happ := OwnE.app hes hvr hg5 hown5 hob5
              have hbw5 := below_row (HB.out.2.2.trans (hbz.mono hwz)) (Nat.le_trans hwz hbz.size) (HR.out.1 _ hbz) (Nat.le_refl _) hg5
              go_wp2_with fail
              go_roundg (gk - 1)
              case measure => have := HJ.out; omega
              case rel => exact ⟨j + 1, A5, c5, by have := HJ.out; omega, by go_num, rfl, by rw [HX.out.2.1, HW.out.2.2.1]; exact happ, hbw5⟩
    · obtain rfl : j = n := by omega
      clear hgk
      have hall : l.take j = l := List.take_of_length_le (by rw [HL.out]; exact Nat.le_refl _)
      rw [hall] at hown
      clear hall
      go_wp2_with fail
      go_ret
      exact ⟨A', c', rfl, hown, hb⟩
end Go.Proofs.YthhhiiagppckhaaDoor
