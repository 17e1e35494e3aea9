/- BlameAsks: its walk; conditions: none beyond its hypotheses. -/
import Derived.Test.YthhhiiagppckhaaDoorBe20
import Derived.Test.YthhhiiagppckhaaDoorBe22
namespace Go.Proofs.YthhhiiagppckhaaDoor
open Go.RowKit Go.Proofs.U Go.Proofs.Bp
set_option linter.unusedVariables false

def anyEq (l : List Int) (c : Int) : Bool := l.any (· == c)
theorem anyEq_snoc (l : List Int) (x c : Int) : anyEq (l ++ [x]) c = (anyEq l c || (x == c)) := by simp [anyEq]
theorem anyEq_has {t : Er} (h : t.ok) (c : Int) : t.has c = anyEq t.codes c := by
  rw [Er.ok_has c h, anyEq]
  induction t.codes with
  | nil => rfl
  | cons x r ih =>
    rw [List.contains_cons, List.any_cons, ih]
    congr 1
    rw [Bool.eq_iff_iff, beq_iff_eq, beq_iff_eq]; exact eq_comm
theorem first_bd {t : Er} (h : esh t ∧ Bd t) (hok : t.ok) : -1000 ≤ first0 t.codes ∧ first0 t.codes ≤ 1000 := by
  induction t with
  | nil => exact hok.elim
  | code c => simp only [Er.codes]; rw [if_neg (show ¬ c = 0 from hok)]; exact h.2
  | one o p e ih => exact ih ⟨h.1.2, h.2⟩ hok
  | two a b iha ihb =>
    have h1 := iha ⟨h.1.1, h.2.1⟩ hok.1
    have hc := Er.ok_codes hok.1
    simp only [Er.codes]
    cases hl : a.codes with
    | nil => exact absurd hl hc
    | cons x r => rw [hl] at h1; exact h1
theorem atE_bl {out : List Er} (h : ∀ t ∈ out, t = .nil ∨ isBl t) (k : Int) : atE out k = .nil ∨ isBl (atE out k) := by
  unfold atE; split
  · exact .inl rfl
  · cases e : out[k.toNat]? with
    | none => exact .inl rfl
    | some t => exact h t (List.mem_of_getElem? e)
theorem stepE_bl {out : List Er} (h : ∀ t ∈ out, t = .nil ∨ isBl t) (x : Flt) : stepE out x = .nil ∨ isBl (stepE out x) := by
  unfold stepE
  split
  · split
    · exact .inl rfl
    · exact .inr trivial
  · split
    · cases e : atE out x.a with
      | nil => exact .inl rfl
      | _ => exact .inr trivial
    · have ha := atE_bl h x.a
      have hb := atE_bl h x.b
      cases e : atE out x.a with
      | nil => exact hb
      | _ => cases e2 : atE out x.b with
        | nil => rw [e] at ha; exact ha
        | _ => exact .inr trivial
theorem madeE_bl (l : List Flt) : ∀ t ∈ madeE l, t = .nil ∨ isBl t := by
  induction l using rev_ind with
  | h0 => intro t ht; cases ht
  | h1 l x ih =>
    intro t ht
    rw [madeE_snoc] at ht
    rcases List.mem_append.1 ht with ht | ht
    · exact ih t ht
    · rw [List.mem_singleton.1 ht]; exact stepE_bl ih x
/-- errors.As of an error into a number that the caller keeps -/
theorem As_nv (t : Er) (v : Value) (fe : Nat) (old : Value) (w : World) (hok : t.ok) (h : ErV w t v) (hg : ErrT w) (hk : Blk w fe 23 #[old]) :
    Calls Tryd.prog 31 #[v, .iface 83 (.pointer (some ⟨fe, 0, none⟩))] w (fun e w' => e = .returned (.bool true) ∧ w'.cell? ⟨fe, 0, none⟩ = some (.int .i64 (first0 t.codes)) ∧ w.grownBy w' (some fe)) :=
  (As_num t v ⟨fe, 0, none⟩ old w hok h hg (hk.cell 0) (hk.frozen 0)).mono fun e w' ⟨he, wA, hA, hw⟩ => by
    subst hw
    exact ⟨he, cell_set (cell_below (hk.cell 0) hA), only_setCell (only_below (World.grownBy.refl w (some fe)) hA) (.inl rfl) _⟩

set_option maxRecDepth 100000 in
set_option maxHeartbeats 32000000 in
theorem blameAsks_any (A : Option Addr) (n c : Nat) (l : List Flt) (code : Int) (w : World) (h : FS w A n l) (hr : ∀ x ∈ l, RngF x) (hn : n ≤ maxLen) (hc : n ≤ c) (hg : ErrT w)
    (hP : Lib.TabIs Tryd.prog w "internal/strconv.uint64pow10" .u64 Lib.pow10Tab) :
    Calls Tryd.prog 8 #[.slice A n c, .int .i64 code] w (Yes w) := by
  have hlight := light_any A n c l w h hr hn
  cases hlb : lightB l with
  | false =>
    rw [hlb] at hlight
    clear hlb
    go_enter Tryd.func8, Tryd.ntmps8
    go_wp2_with fail
    refine hlight.mono ?_
    rintro e w1 ⟨rfl, hb1⟩
    go_wp2_with fail
    refine (lives02 w1 (hg.below hb1)).mono ?_
    rintro e w2 ⟨rfl, hb2⟩
    go_wp2_with fail
    go_ret
    exact ⟨rfl, hb1.trans (hb2.mono hb1.size)⟩
  | true =>
    rw [hlb] at hlight
    unfold lightB at hlb
    rw [Bool.and_eq_true, decide_eq_true_eq] at hlb
    have hok : ∀ x ∈ l, FOk x := fun x hx => fokB_ok.1 (List.all_eq_true.1 hlb.1 x hx)
    have hn10 : n ≤ 10 := by rw [← h.1]; exact hlb.2
    have hll := h.1
    have HH := Lib.hid (And.intro hok (And.intro hr (And.intro hll hP)))
    have HG := Lib.hid hg
    clear hlb hok hr hll hP hg
    go_enter Tryd.func8, Tryd.ntmps8
    go_wp2_with fail
    refine hlight.mono ?_
    rintro e w1 ⟨rfl, hb1⟩
    clear hlight
    go_wp2_with fail
    refine (made_any A n c l w1 (h.below hb1) HH.out.2.1 HH.out.1 hn10 (HG.out.below hb1)).mono ?_
    rintro e w2 ⟨A2, c2, rfl, hown2, hb2⟩
    have hbw2 := hb1.trans (hb2.mono hb1.size)
    go_wp2_with fail
    go_loopg [20] n (fun r i wr => ∃ (j : Nat), r + j = n ∧ i = .int .i64 (j : Int) ∧ Below w2.heap.size w2 wr)
    case atStart => exact ⟨0, rfl, rfl, Below.refl _ _⟩
    case round =>
      obtain ⟨j, hgk, rfl, hb3⟩ := hrel
      obtain ⟨wo, rfl⟩ : ∃ wo : World, wo = wr := ⟨_, rfl⟩
      have HJ := Lib.hid hgk
      have hbo := hbw2.trans (hb3.mono hbw2.size)
      by_cases hj : j < n
      · clear hgk
        have hgd := good_at l HH.out.1 (j : Int)
        obtain ⟨t, ht⟩ : ∃ t, (madeE l)[j]? = some t := ⟨(madeE l)[j]'(by rw [madeE_len, HH.out.2.2.1]; exact hj), by simp⟩
        have hte : atE (madeE l) (j : Int) = t := by unfold atE; rw [if_neg (by omega), Int.toNat_natCast, ht]; rfl
        rw [hte, HH.out.2.2.1] at hgd
        obtain ⟨g2, v, rfl, hcell, hev⟩ := (hown2.below hb3).at_ ht
        have hl4 := rcodes_any A n c l (j : Int) wo hn10 ⟨by omega, by omega⟩ (h.below hbo) hc HH.out.2.1 HH.out.1
        rw [hte] at hl4
        have HTE := Lib.hid (And.intro hte hgd)
        have HL4 := Lib.hid hl4
        obtain ⟨gq, rfl⟩ : ∃ gq, gq = gk := ⟨_, rfl⟩
        have hblt := madeE_bl l t (List.mem_of_getElem? ht)
        clear ht hte hgd hl4
        by_cases hnil : t = .nil
        · subst hnil
          obtain rfl : v = _ := hev
          clear hblt
          go_wp2_with fail
          refine HL4.out.mono ?_
          rintro e w3 ⟨A3, n3, c3, hn3, rfl, hown3, hb4⟩
          obtain rfl : n3 = 0 := hn3
          have hb34 := hb3.trans (hb4.mono hb3.size)
          clear hown3
          go_wp2_with fail
          refine wp_loop_rounds 1 ?_
          rw [rounds_succ]
          go_wp2_with fail
          refine (Is_nil code w3).mono ?_
          rintro e w4 ⟨rfl, hb5⟩
          have hb35 := hb34.trans (hb5.mono hb34.size)
          go_wp2_with fail
          refine (asNil_any _ _).mono ?_
          rintro e w5 ⟨rfl, rfl⟩
          have hb36 := hb35.trans ((boxed w4 (.cells #[.pointer none] 60)).mono hb35.size)
          go_wp2_with fail
          go_roundg (gq - 1)
          case measure => have := HJ.out; omega
          case rel => exact ⟨j + 1, by have := HJ.out; omega, by go_num, hb36⟩
        · have hbl := hblt.resolve_left hnil
          obtain ⟨ge, us, rfl, -, -, -⟩ := hev.bl hbl
          have hkt : t.ok := HTE.out.2.ok.resolve_left hnil
          have hfb := first_bd ⟨HTE.out.2.lt, HTE.out.2.bd⟩ hkt
          have hszt := good_siz HTE.out.2 hn10
          have hlt := lt_iff t HTE.out.2.lt
          have hhas := anyEq_has hkt code
          have hcn := Er.ok_codes hkt
          have HT := Lib.hid (And.intro hkt (And.intro hfb (And.intro hszt (And.intro hlt (And.intro hhas hbl)))))
          obtain ⟨L, hL⟩ : ∃ L, L = t.codes := ⟨_, rfl⟩
          have hl4 := HL4.out
          rw [← hL] at hl4 hcn
          obtain ⟨x0, r0, hL0⟩ : ∃ x r, L = x :: r := by
            cases L with
            | nil => exact absurd rfl hcn
            | cons x r => exact ⟨x, r, rfl⟩
          have HLL := Lib.hid (And.intro hL hL0)
          have HL5 := Lib.hid hl4
          clear hbl hkt hfb hszt hlt hhas hnil hblt hcn hL hL0 hl4
          go_wp2_with fail
          refine HL5.out.mono ?_
          rintro e w3 ⟨A3, n3, c3, hn3, rfl, hown3, hb4⟩
          have hb34 := hb3.trans (hb4.mono hb3.size)
          have hbw3 := hbo.trans (hb4.mono hbo.size)
          have hev3 := hev.below hb4
          obtain ⟨g3, rfl, hx0⟩ := hown3.at_ (k := 0) (x := cv x0) (by rw [HLL.out.2]; rfl)
          have hn3p : 0 < n3 := by rw [hn3, HLL.out.2]; simp
          have hvs3 := hown3.vs
          have HN3 := Lib.hid hn3
          have hn3b : n3 ≤ 1000000 := by rw [hn3, HLL.out.1]; exact Nat.le_trans (codes_len t) HT.out.2.2.1
          unfold cv at hx0
          clear hn3 hown3
          go_wp2_with fail
          go_loopg [7, 30] n3 (fun r hs i wr => ∃ (j2 : Nat) (B : Bool), r + j2 = n3 ∧ i = .int .i64 (j2 : Int) ∧ hs = .bool B ∧ B = anyEq (L.take j2) code ∧ wr = w3)
          case atStart => exact ⟨0, false, rfl, rfl, rfl, rfl, rfl⟩
          case round =>
            obtain ⟨j2, B, hgk, rfl, rfl, hB, rfl⟩ := hrel
            have HJ2 := Lib.hid (And.intro hgk hB)
            clear hB
            by_cases hj2 : j2 < n3
            · clear hgk
              obtain ⟨y, hy⟩ : ∃ y, L[j2]? = some y := ⟨L[j2]'(by rw [← HN3.out]; exact hj2), by simp⟩
              have cy := VS.nth hvs3 (k := j2) (v := cv y) (by rw [List.getElem?_map, hy]; rfl)
              unfold cv at cy
              rw [Nat.zero_add] at cy
              have hsn := anyEq_snoc (L.take j2) y code
              rw [← take_succ_get L j2 y hy, ← HJ2.out.2] at hsn
              have HSN := Lib.hid hsn
              clear hy hsn
              cases B with
              | true =>
                go_wp2_with fail
                go_roundg (gk - 1)
                case measure => have := HJ2.out.1; omega
                case rel => exact ⟨j2 + 1, true, by have := HJ2.out.1; omega, by go_num, rfl, by rw [HSN.out]; rfl, rfl⟩
              | false =>
                go_wp2_with fail
                go_roundg (gk - 1)
                case measure => have := HJ2.out.1; omega
                case rel => exact ⟨j2 + 1, (y == code), by have := HJ2.out.1; omega, by go_num, rfl, by rw [HSN.out]; rfl, rfl⟩
            · obtain rfl : j2 = n3 := by omega
              clear hgk hj2
              have hBR : t.has code = B := by
                rw [HT.out.2.2.2.2.1, HJ2.out.2, List.take_of_length_le (by rw [← HN3.out]; exact Nat.le_refl _), HLL.out.1]
              have hIs := Is_any t _ code wr HT.out.1 hev3
              rw [hBR] at hIs
              have HIS := Lib.hid hIs
              clear hBR hIs
              go_wp2_with fail
              refine HIS.out.mono ?_
              rintro e w4 ⟨rfl, hb5⟩
              have hb35 := hb34.trans (hb5.mono hb34.size)
              have hbw4 := hbw3.trans (hb5.mono hbw3.size)
              go_wp2_with fail
              have hb6 := boxed w4 (.cells #[.pointer none] 60)
              have hB6 := BV.new w4 (.pointer none)
              have hev4 := hev3.below hb5
              have hx4 := cell_below hx0 hb5
              obtain ⟨fb, hfb⟩ : ∃ fb, fb = w4.heap.size := ⟨_, rfl⟩
              rw [← hfb] at hB6 ⊢
              have hfl : w2.heap.size ≤ fb := by rw [hfb]; exact hb35.size
              have hvn : ErVn (fun b => some b ≠ some fb) w4 t (.iface 60 (.pointer (some ⟨ge, 0, none⟩))) := hev4.weak (fun b _ hb => by rw [hfb]; intro e; injection e with e; omega)
              have hg3 : some g3 ≠ some fb := by
                have := World.block_lt_of_cell? w4 _ hx4
                intro e; injection e with e; simp only at this; omega
              have hv5 := hvn.below hb6
              have hx5 := cell_below hx4 hb6
              have hb25 := hb35.trans (hb6.mono hb35.size)
              clear hfb hvn hev4 hx4 hx0 hev3 hev hcell hown2 hvs3
              generalize w4.alloc (.cells #[.pointer none] 60) = w5 at hB6 hv5 hx5 hb25 ⊢
              clear hb6
              have hbw5 := hbw2.trans (hb25.mono hbw2.size)
              refine (As_bv (some ⟨ge, 0, none⟩) fb _ w2.heap.size w2 w5 (HG.out.below hbw5) hB6 hb25 hfl hb25.size).mono ?_
              rintro e w6 ⟨rfl, hB7, hb26, hgr⟩
              have hv6 := hv5.grown hgr (fun b h => h)
              have hx6 : w6.cell? ⟨g3, 0, none⟩ = some (.int .i64 x0) := (World.cell?_of_block (hgr.block g3 (World.block_lt_of_cell? w5 _ hx5) hg3)).trans hx5
              have hbw6 := hbw2.trans (hb26.mono hbw2.size)
              have d1 : decide ((0 : Int) < (j2 : Int)) = true := decide_eq_true (by omega)
              have d2 : ((j2 : Int) == 0) = false := by simp; omega
              have cB6 := hB7.cell
              clear hv5 hx5 hB6 hb25 hbw5 hgr
              go_wp2_with fail
              have hE := Blk.new w6 23 #[.int .i64 0]
              have hb7 := boxed w6 (.cells #[.int .i64 0] 23)
              obtain ⟨fe, hfe⟩ : ∃ fe, fe = w6.heap.size := ⟨_, rfl⟩
              rw [← hfe] at hE ⊢
              have nB : some fb ≠ some fe := by
                have := World.block_lt_of_cell? w6 _ cB6
                intro e; injection e with e; simp only at this; omega
              have nX : some g3 ≠ some fe := by
                have := World.block_lt_of_cell? w6 _ hx6
                intro e; injection e with e; simp only at this; omega
              have hv7 := (hv6.ev).below hb7
              have cB7 := cell_below cB6 hb7
              have cX7 := cell_below hx6 hb7
              have hb27 := hb26.trans (hb7.mono hb26.size)
              have hbw7 := hbw2.trans (hb27.mono hbw2.size)
              have hfe2 : w2.heap.size ≤ fe := by rw [hfe]; exact hb26.size
              clear hfe hB7 cB6 hx6 hv6
              generalize w6.alloc (.cells #[.int .i64 0] 23) = w7 at hE hb7 hv7 cB7 cX7 hb27 hbw7 ⊢
              clear hb7
              obtain ⟨ST, hST⟩ : ∃ ST, ST = strOf (textOf t) := ⟨_, rfl⟩
              have hc0 : first0 t.codes = x0 := by rw [← HLL.out.1, HLL.out.2]; rfl
              have hErr : ∀ w', Below w7.heap.size w7 w' → Calls Tryd.prog 33 #[.pointer (some ⟨ge, 0, none⟩)] w' (fun e w'' => e = .returned (.string ST) ∧ Below w'.heap.size w' w'') := fun w' hb' => by
                rw [hST]
                exact error_any t ge w' HT.out.2.2.1 HT.out.1 HT.out.2.2.2.1 (hv7.below hb') (HG.out.below (hbw7.trans (hb'.mono hbw7.size))) (.inr ⟨by have := HT.out.2.1; omega, by have := HT.out.2.1; omega, Lib.tabBelow_of_tabIs HH.out.2.2.2 w' (hbw7.trans (hb'.mono hbw7.size))⟩)
              have hTxt : ∀ w', Below w7.heap.size w7 w' → Calls Tryd.prog 29 #[.slice A n c, .int .i64 (j : Int)] w' (fun e w'' => e = .returned (.string ST) ∧ Below w'.heap.size w' w'') := fun w' hb' => by
                rw [hST]
                exact rtext_any A n c l (j : Int) w' hn10 ⟨by omega, by omega⟩ (h.below (hbw7.trans (hb'.mono hbw7.size))) hc HH.out.2.1 HH.out.1 t HTE.out.1 HT.out.1 (HTE.out.2.mono hn10) HT.out.2.1
              have hAs : ∀ w', Below w7.heap.size w7 w' → Calls Tryd.prog 31 #[.iface 60 (.pointer (some ⟨ge, 0, none⟩)), .iface 83 (.pointer (some ⟨fe, 0, none⟩))] w' (fun e w'' => e = .returned (.bool true) ∧ w''.cell? ⟨fe, 0, none⟩ = some (.int .i64 x0) ∧ w'.grownBy w'' (some fe)) := fun w' hb' => by
                have := As_nv t _ fe (.int .i64 0) w' HT.out.1 (hv7.below hb') (HG.out.below (hbw7.trans (hb'.mono hbw7.size))) (hE.stay hb')
                rwa [hc0] at this
              have HC := Lib.hid (And.intro hErr (And.intro hTxt hAs))
              have HN := Lib.hid (And.intro nB nX)
              clear hST hc0 hErr hTxt hAs nB nX hE hv7
              have cB7' : w7.drew.cell? ⟨fb, 0, none⟩ = some (.pointer (some ⟨ge, 0, none⟩)) := cB7
              go_region_law (first
                | (go_simp
                   go_at_call 33; refine (HC.out.1 _ ?_).mono ?_; exact (Below.refl _ _).drew; rintro e w8 ⟨rfl, hb8⟩
                   have hb8' : Below w7.heap.size w7 w8 := (Below.refl _ _).drew.trans hb8
                   have f8 := cell_below cB7 hb8'
                   have x8 := cell_below cX7 hb8'
                   go_simp)
                | (go_simp
                   go_at_call 29; refine (HC.out.2.1 _ hb8').mono ?_; rintro e w9 ⟨rfl, hb9⟩
                   have hb9' : Below w7.heap.size w7 w9 := hb8'.trans (hb9.mono hb8'.size)
                   have f9 := cell_below cB7 hb9'
                   have x9 := cell_below cX7 hb9'
                   go_simp)
                | (go_simp
                   go_at_call 31; refine (HC.out.2.2 _ hb9').mono ?_; rintro e w10 ⟨rfl, e10, hg10⟩
                   have f10 : w10.cell? ⟨fb, 0, none⟩ = some (.pointer (some ⟨ge, 0, none⟩)) := (World.cell?_of_block (hg10.block fb (World.block_lt_of_cell? w9 _ f9) HN.out.1)).trans f9
                   have x10 : w10.cell? ⟨g3, 0, none⟩ = some (.int .i64 x0) := (World.cell?_of_block (hg10.block g3 (World.block_lt_of_cell? w9 _ x9) HN.out.2)).trans x9
                   go_simp))
              all_goals
                have hb10 : Below w2.heap.size w2 w10 := (hb27.trans (hb9'.mono hb27.size)).grown hg10 (Nat.le_trans hb27.size hb9'.size) (fun k hk => by injection hk with hk; omega)
                go_wp2_with fail
                go_roundg (gq - 1)
                case measure => have := HJ.out; omega
                case rel => exact ⟨j + 1, by have := HJ.out; omega, by go_num, hb10⟩
      · obtain rfl : j = n := by omega
        clear hgk
        go_wp2_with fail
        refine (lives02 wo (HG.out.below hbo)).mono ?_
        rintro e w18 ⟨rfl, hb18⟩
        go_wp2_with fail
        go_ret
        exact ⟨rfl, hbo.trans (hb18.mono hbo.size)⟩
end Go.Proofs.YthhhiiagppckhaaDoor
