/- PatchBack; conditions: none beyond its hypotheses. -/
import Derived.Test.YtmnanbcinfdbaaaDoorMgLaw19c
import Derived.Test.YtmnanbcinfdbaaaDoorMgFp11
import Derived.Test.YtmnanbcinfdbaaaDoorMgFp5
set_option linter.unusedSimpArgs false
set_option linter.unusedVariables false
section
namespace Go.Proofs.Gr
theorem Fed.len {n : Int} {base : List UInt8} {l : List Stp} {got : List UInt8} {o : Nat} {hs left : List UInt8} (h : Fed n base l got o hs left) (hn : n = base.length ∧ n ≤ 4096) (hok : l.all (okS n) = true) (hsum : lsum l ≤ 4096) : got.length ≤ 4096 ∧ o ≤ 4096 ∧ hs.length ≤ (wrP l).length := by
  obtain ⟨j, hj, hg, ho, hw⟩ := h
  have hsp := lsum_split l j
  have hok2 : (l.drop j).all (okS n) = true := List.all_eq_true.2 fun x hx => List.all_eq_true.1 hok x (List.mem_of_mem_drop hx)
  have hd := lsum_ok hn.2 (l.drop j) hok2 (l.drop j).length
  rw [List.take_length] at hd
  have hgl : ∀ (l : List Stp), l.all (okS n) = true → ((outB base l).length : Int) = lsum l := by
    intro l
    induction l with
    | nil => intro _; rfl
    | cons x l ih =>
      intro h
      simp only [List.all_cons, Bool.and_eq_true] at h
      have e1 : outB base (x :: l) = doesP base x ++ outB base l := by simp [outB]
      have e2 : lsum (x :: l) = x.l + lsum l := by simp [lsum]
      have h1 := does_len (base := base) h.1 hn.1 hn.2
      have h2 := okS_len h.1 hn.2
      rw [e1, e2, List.length_append, h1]
      push_cast
      rw [ih h.2]
      omega
  have hok1 : (l.take j).all (okS n) = true := List.all_eq_true.2 fun x hx => List.all_eq_true.1 hok x (List.mem_of_mem_take hx)
  have h1 := hgl _ hok1
  have h2 := congrArg List.length hw
  simp only [List.length_append] at h2
  rw [hg]
  refine ⟨by omega, by omega, by omega⟩
theorem wrS_ne (x : Stp) : wrS x ≠ [] := by
  unfold wrS
  split
  · intro h; simp at h; exact numB_ne 1 h.1
  · intro h; simp at h; exact numB_ne 2 h.1
theorem wrP_nil {l : List Stp} (h : wrP l = []) : l = [] := by
  cases l with
  | nil => rfl
  | cons x l =>
    have : wrP (x :: l) = wrS x ++ wrP l := by simp [wrP]
    rw [this] at h
    exact absurd (List.append_eq_nil_iff.1 h).1 (wrS_ne x)
end Go.Proofs.Gr
namespace Go.Proofs.YtmnanbcinfdbaaaDoor
open Go.RowKit Go.Proofs.U
set_option linter.unusedVariables false
theorem outL_outB (base : List UInt8) (l : List Gr.Stp) : outL base l = Gr.outB base l := rfl
set_option maxRecDepth 100000 in
set_option maxHeartbeats 16000000 in
theorem patchBack_any (Ab : Option Addr) (nb cb : Nat) (base : List UInt8) (Ad : Option Addr) (m cd : Nat) (data : List UInt8) (sz ct : UInt8) (w : World)
    (hb : BS w w.heap.size Ab nb base) (hm : nb ≤ maxLen) (hcb : nb ≤ cb) (hb' : BS w w.heap.size Ad m data) (hm' : m ≤ maxLen) (hc' : m ≤ cd) (hT : Tabs w) :
    Calls Tryd.prog 15 #[.slice Ab nb cb, .slice Ad m cd, .int .u8 (sz.toNat : Int), .int .u8 (ct.toNat : Int)] w (Yes w) := by
  have hlv := fun w' => lives20 w'
  by_cases c1 : 4096 < nb
  · have u1 : decide (4096 < (nb : Int)) = true := by simp; omega
    have v1 : decide (4096 < nb) = true := by simp; omega
    clear c1
    go_enter Tryd.func15, Tryd.ntmps15
    go_wp2_with fail
    refine (hlv w).mono ?_
    rintro e w2 ⟨rfl, hb2⟩
    go_wp2_with fail
    go_ret
    exact ⟨rfl, hb2⟩
  have u1 : decide (4096 < (nb : Int)) = false := by simp; omega
  have v1 : decide (4096 < nb) = false := by simp; omega
  by_cases c2 : 4096 < m
  · have u2 : decide (4096 < (m : Int)) = true := by simp; omega
    have v2 : decide (4096 < m) = true := by simp; omega
    clear c1 c2
    go_enter Tryd.func15, Tryd.ntmps15
    go_wp2_with fail
    refine (hlv w).mono ?_
    rintro e w2 ⟨rfl, hb2⟩
    go_wp2_with fail
    go_ret
    exact ⟨rfl, hb2⟩
  have u2 : decide (4096 < (m : Int)) = false := by simp; omega
  have v2 : decide (4096 < m) = false := by simp; omega
  have hnb : nb ≤ 4096 := by omega
  have hm4 : m ≤ 4096 := by omega
  have hbl := hb.1
  have hdl := hb'.1
  obtain ⟨K, hK⟩ : ∃ K : Nat, K = 1 + ct.toNat := ⟨_, rfl⟩
  have hK1 : 1 ≤ K ∧ K ≤ 256 := by have := ct.toNat_lt; omega
  have hwc : IntKind.i64.wrap (ct.toNat : Int) = (ct.toNat : Int) := by have := ct.toNat_lt; rw [IntKind.wrap_i64]; omega
  have hwK : IntKind.i64.wrap (1 + (ct.toNat : Int)) = (K : Int) := by have := ct.toNat_lt; rw [IntKind.wrap_i64]; omega
  obtain ⟨s, hs⟩ : ∃ s : Nat, s = 4 + sz.toNat % 61 := ⟨_, rfl⟩
  have hs4 : 4 ≤ s := by omega
  have hs64 : s ≤ 64 := by omega
  have hw1 : IntKind.i64.wrap (sz.toNat : Int) = (sz.toNat : Int) := by have := sz.toNat_lt; rw [IntKind.wrap_i64]; omega
  have hq1 : ((sz.toNat : Int)).tmod 61 = ((sz.toNat % 61 : Nat) : Int) := by simp [Int.tmod_eq_emod_of_nonneg]
  have hw2 : IntKind.i64.wrap (((sz.toNat % 61 : Nat) : Int)) = ((sz.toNat % 61 : Nat) : Int) := by rw [IntKind.wrap_i64]; omega
  have hw3 : IntKind.i64.wrap (4 + ((sz.toNat % 61 : Nat) : Int)) = (s : Int) := by rw [IntKind.wrap_i64]; omega
  obtain ⟨y, hy⟩ : ∃ y, y = sz.toNat % 61 := ⟨_, rfl⟩
  rw [← hy] at hq1 hw2 hw3
  have HB := Lib.hid (And.intro hbl (And.intro hdl (And.intro hs hK)))
  clear c1 c2 hbl hdl hs hy hK
  go_enter Tryd.func15, Tryd.ntmps15
  go_wp2_with fail
  refine (of_any Ab nb cb s base w hb hcb hnb hs4 hs64 hT).mono ?_
  rintro e w5 ⟨rfl, htab, hb5⟩
  have htt := Tt.of hb hcb hnb hs4 hs64 htab hb5
  have hbw5 : Below w.heap.size w w5 := hb5
  have hbd5 := hb'.below hb5
  have hbb5 := hb.below hb5
  generalize w.heap.size + 1 = G at htt ⊢
  clear htab hb hb'
  go_wp2_with fail
  refine (hsteps_any G _ _ _ nb cb base s Ad m cd data w5 htt (hT.stay hbw5) (hbd5.more hbw5.size) hc' (by omega)).mono ?_
  rintro e w6 ⟨⟨A6, n6, c6, rfl, hc6, hso6⟩, hb6⟩
  have hbw6 := hbw5.trans (hb6.mono hbw5.size)
  have hbd6 := hbd5.below (hb6.mono hbw5.size)
  have hbb6 := hbb5.below (hb6.mono hbw5.size)
  have hsp6 := hso6.sp
  have hlen6 := hunt_len (base := base) (data := data) (s := s) (F := m) (a := 0) (l := [])
  simp only [List.length_nil, Nat.zero_add] at hlen6
  have hok6 : Oks s base.length (huntS base data s m 0 []) := Oks.hunt (by omega) (Oks.nil _ _)
  have hout6 := outL_hunt (base := base) (data := data) (s := s) (by omega) (F := m) (a := 0) (l := []) (Oks.nil _ _) rfl (by rw [HB.out.2.1]; omega)
  obtain ⟨L, hL⟩ : ∃ L, L = huntS base data s m 0 [] := ⟨_, rfl⟩
  rw [← hL] at hsp6 hlen6 hok6 hout6
  have HL := Lib.hid (And.intro hok6 (And.intro hout6 hlen6))
  clear hL hso6 htt hok6 hout6 hlen6 hbd5 hbb5
  have hn6 : n6 ≤ 5000 := by have := hsp6.1; have := HL.out.2.2; omega
  go_wp2_with fail
  refine (dshort_any A6 n6 c6 L Ad m cd data w6 hsp6 hc6 (HL.out.1.rng (by rw [HB.out.1]; omega)) hn6 (by have := HL.out.1.dsum; have := HL.out.2.2; omega) (hbd6.more hbw6.size) hc' hm4).mono ?_
  rintro e w7 ⟨⟨A7, n7, c7, rfl, hc7, hsp7⟩, hb7⟩
  have hbw7 := hbw6.trans (hb7.mono hbw6.size)
  have hbd7 := hbd6.below (hb7.mono hbw6.size)
  have hbb7 := hbb6.below (hb7.mono hbw6.size)
  have hok7 : Oks s base.length (shortP L data) := short_oks HL.out.1
  have hout7 : outL base (shortP L data) = data := short_out HL.out.2.1
  have hlen7 := short_n L data 4096 (by have := HL.out.2.2; omega) (by rw [HB.out.2.1]; omega)
  have hwl := short_len L data (by rw [HB.out.2.1]; omega)
  have hck := check_ok hok7 (by rw [HB.out.1]; omega) (by omega) (by rw [hout7, HB.out.2.1]; omega)
  have hal := hok7.all (by rw [HB.out.1]; omega) (by omega)
  have hsu := hok7.lsum
  rw [hout7, HB.out.2.1] at hsu
  rw [HB.out.1] at hck hal
  have hrg := hok7.rng (by rw [HB.out.1]; omega)
  have hds7 := dsum_le_out hok7
  rw [hout7, HB.out.2.1] at hds7
  generalize shortP L data = Q at hsp7 hok7 hout7 hlen7 hwl hck hal hsu hrg hds7
  have hn7 : n7 ≤ 5000 := by have := hsp7.1; omega
  have HQ := Lib.hid (show (Gr.wrP Q).length ≤ 8300 ∧ Gr.checkP Q (nb : Int) = 0 ∧ Q.all (Gr.okS (nb : Int)) = true ∧ Gr.lsum Q = (m : Int) ∧ (∀ x ∈ Q, Rng x) ∧ dsum Q ≤ 4096 ∧ Gr.lsum Q ≤ 4096 from ⟨hwl, hck, hal, hsu, hrg, by omega, by omega⟩)
  have HO := Lib.hid hout7
  clear hck hal hsu hrg hds7 hwl hout7 hok7 hsp6 hbd6 hbb6 hlen7
  go_wp2_with fail
  refine (dwrite_any A7 n7 c7 Q w7 hsp7 HQ.out.2.2.2.2.1 (by omega) (by have := HQ.out.2.2.2.2.2.1; omega)).mono ?_
  rintro e w8 ⟨A8, c8, rfl, hown8, hb8⟩
  have hsp8 := hsp7.below hb8
  have hbw8 := hbw7.trans (hb8.mono hbw7.size)
  have hbd8 := hbd7.below (hb8.mono hbw7.size)
  have hbb8 := hbb7.below (hb8.mono hbw7.size)
  have hst8 := hown8.bs
  have hst8c := U.Own.le hown8
  obtain ⟨X, hX⟩ : ∃ X, X = (Gr.wrP Q).length := ⟨_, rfl⟩
  have hX1 : X ≤ 8300 := by rw [hX]; exact HQ.out.1
  rw [← hX] at hst8 hst8c ⊢
  have HX := Lib.hid hX
  clear hsp7 hown8 hX hbd7 hbb7
  go_wp2_with fail
  refine (new_any Ab nb cb w8 hnb).mono ?_
  rintro e w9 ⟨rfl, hw9⟩
  have hb9 : Below w8.heap.size w8 w9 := by rw [hw9]; exact (Below.refl _ _).alloc (Nat.le_refl _) _
  have hpk9 : Blk w9 w8.heap.size 122 (ptC Ab nb cb none 0 0 0 0) := by rw [hw9]; exact Blk.new _ _ _
  have hbb9 := hbb8.below (hb9.mono hbw8.size)
  have hst9 := hst8.below hb9
  have hwg := hbw8.size
  have hgl9 := hpk9.lt
  obtain ⟨g, hg⟩ : ∃ g, g = w8.heap.size := ⟨_, rfl⟩
  have HG := Lib.hid hg
  have HSP := Lib.hid (And.intro hsp8 (And.intro hbd8 (And.intro hbb8 (And.intro hbw8 hb9))))
  rw [← hg] at hpk9 hst9 hwg hgl9 ⊢
  have hpt9 : PtS w9 g Ab nb cb base [] 0 0 := ⟨none, 0, hpk9, hbb9.more hwg, Dat.nil _ _ _, Nat.le_refl _⟩
  have hbg9 : Below g w9 w9 := Below.refl g w9
  clear hw9 hpk9 hsp8 hst8 hg hbd8 hbb8 hb9 hbb9
  have hnb4 : (nb : Int) = base.length ∧ (nb : Int) ≤ 4096 := ⟨by rw [HB.out.1], by omega⟩
  go_wp2_with fail
  go_loopg [12, 14] X (fun r v gv wr => ∃ As cs left Ag cg got o hs, v = .slice As r cs ∧ r ≤ cs ∧ BS wr g As r left ∧ gv = .slice Ag got.length cg ∧ U.Own wr (g + 1) 5 Ag got.length cg got ∧ PtS wr g Ab nb cb base hs o 0 ∧ Gr.Fed (nb : Int) base Q got o hs left ∧ o ≤ 4096 ∧ hs.length ≤ 1000000 ∧ Below g w9 wr ∧ (left = [] → got = Gr.outB base Q ∧ (o : Int) = Gr.lsum Q ∧ hs = []))
  case atStart => exact ⟨A8, c8, Gr.wrP Q, none, 0, [], 0, [], rfl, hst8c, hst9, rfl, U.Own.nil _ _ _, hpt9, Gr.Fed.start _ _ _, by omega, by simp, hbg9, fun h => by rw [Gr.wrP_nil h]; exact ⟨rfl, rfl, rfl⟩⟩
  case round =>
    clear hst9 hst8c hpt9 hbg9
    obtain ⟨As, cs, left, Ag, cg, got, o, hs, rfl, hrc, hst, rfl, hgot, hpt, hfed, ho, hhl, hbw, hfin⟩ := hrel
    obtain ⟨wo, rfl⟩ : ∃ wo : World, wo = wr := ⟨_, rfl⟩
    have hll := hst.1
    have hgl : g < wo.heap.size := by obtain ⟨_, _, h, _⟩ := hpt; exact h.lt
    by_cases hpos : 0 < gk
    · have p1 : decide ((0 : Int) < (gk : Int)) = true := by simpa using hpos
      have p2 : decide (0 < gk) = true := by simpa using hpos
      have hgk8 : gk ≤ 8300 := by
        obtain ⟨j, _, _, _, hw⟩ := hfed
        have := congrArg List.length hw
        simp only [List.length_append] at this
        have := HQ.out.1
        omega
      clear hfin
      rcases Nat.lt_trichotomy gk K with htri | htri | htri
      · by_cases hcc : cs = gk
        · have k2 : gk ≤ gk := Nat.le_refl _
          have z3 : decide ((gk : Int) < (K : Int)) = true := by simp; omega
          have z4 : decide (gk < K) = true := by simp; omega
          obtain ⟨sb, so, rfl, _⟩ := hst.2 hpos
          obtain rfl : gk = cs := by omega
          have hsk : BS wo g (some ⟨sb, so, none⟩) gk (left.take gk) := hst.take k2
          have hsd : BS wo g (some ⟨sb, so + gk, none⟩) (gk - gk) (left.drop gk) := hst.drop k2
          obtain ⟨ot, o', hs', hfe, hfd, hend⟩ := Gr.Fed.next hfed (by omega) HQ.out.2.2.1 HQ.out.2.2.2.2.2.2 gk
          have hfeed := feed_okN g Ab nb cb base hs o (some ⟨sb, so, none⟩) gk gk (left.take gk) wo hpt hcb hnb ho (hsk.more (Nat.le_of_lt hgl)) (by omega) hhl
          rw [hfe] at hfeed
          have HS := Lib.hid (And.intro hsd (And.intro hfd (And.intro hend (And.intro hgot (And.intro hpt hbw)))))
          clear hfe hfd hend hfed hpt hsk hsd hst
          go_wp2_with fail
          refine hfeed.mono ?_
          rintro e w1 ⟨A1, c1, rfl, hown1, ⟨Ah, ch, hpk, hpb, hph⟩, hg1⟩
          simp only at hown1 hpk hpb hph
          have hgot1 : U.Own w1 (g + 1) 5 Ag got.length cg got := own_kept HS.out.2.2.2.1 hg1 (by omega)
          have hol := Gr.Fed.len HS.out.2.1 hnb4 HQ.out.2.2.1 HQ.out.2.2.2.2.2.2
          have hlen5 : got.length + ot.length ≤ 140737488355328 := by have := hol.1; rw [List.length_append] at this; omega
          have hz1 : g + 1 ≤ w1.heap.size := Blk.lt hpk
          have hob := hown1.bs
          clear hfeed hown1
          go_wp2_with (at_builtin; refine wpList_app bt rfl (.tmp 70) (.tmp 71) rfl (g + 1) Ag got.length cg got rfl hgot1 _ A1 ot.length c1 ot rfl hob hlen5 hz1 ?_; intro A5 c5 w5 hown5 hg5 _)
          have hne : ∀ j, (Value.slice Ag got.length cg).ownBlock = some j → g + 1 ≤ j ∧ j < wo.heap.size := fun j hj => World.ownsRow.lt HS.out.2.2.2.1 j hj
          have hpk5 : Blk w5 g 122 (ptC Ab nb cb Ah hs'.length ch o' 0) := hpk.grown hg5 (fun e => by have := (hne g e.symm).1; omega)
          have hpb5 : BS w5 g Ab nb base := hpb.grown hg5 (by omega) (fun j hj => by have := (hne j hj).1; omega)
          have hph5 : U.Own w5 wo.heap.size 5 Ah hs'.length ch hs' := World.ownsRow.kept hph hg5 (by
            cases hA : (Value.slice Ah hs'.length ch).ownBlock with
            | none => exact .inl rfl
            | some j => exact .inr (fun e => by have := (World.ownsRow.lt hph j hA).1; have := (hne j e.symm).2; omega))
          have hb1 : Below g wo w1 := (Below.refl g wo).grown hg1 (by omega) (fun j hj => by injection hj; omega)
          have hb5 : Below g wo w5 := hb1.grown hg5 (by omega) (fun j hj => by have := (hne j hj).1; omega)
          have hpt5 : PtS w5 g Ab nb cb base hs' o' 0 := ⟨Ah, ch, hpk5, hpb5, Dat.own hph5, U.Own.le hph5⟩
          clear hg1 hg5 hpk hpb hph hpk5 hpb5 hph5 hne hob hgot1
          go_wp2_with fail
          go_roundg (0)
          case measure => omega
          case rel => exact ⟨some ⟨sb, so, none⟩, 0, [], A5, c5, got ++ ot, o', hs', rfl, by omega, BS.nil _ _ _, by rw [List.length_append], by rw [List.length_append]; exact hown5, hpt5, by have h9 := HS.out.2.1; rw [List.drop_of_length_le (by rw [hll]; exact Nat.le_refl _)] at h9; exact h9, by have := hol.2.1; omega, by have := hol.2.2; have := HQ.out.1; omega, (HS.out.2.2.2.2.2).trans hb5, fun _ => HS.out.2.2.1 (List.drop_of_length_le (by rw [hll]; exact Nat.le_refl _))⟩
        · have k2 : gk ≤ gk := Nat.le_refl _
          have z3 : decide ((gk : Int) < (K : Int)) = true := by simp; omega
          have z4 : decide (gk < K) = true := by simp; omega
          obtain ⟨sb, so, rfl, _⟩ := hst.2 hpos
          have hck : ¬ cs = gk := hcc
          have hsk : BS wo g (some ⟨sb, so, none⟩) gk (left.take gk) := hst.take k2
          have hsd : BS wo g (some ⟨sb, so + gk, none⟩) (gk - gk) (left.drop gk) := hst.drop k2
          obtain ⟨ot, o', hs', hfe, hfd, hend⟩ := Gr.Fed.next hfed (by omega) HQ.out.2.2.1 HQ.out.2.2.2.2.2.2 gk
          have hfeed := feed_okN g Ab nb cb base hs o (some ⟨sb, so, none⟩) gk cs (left.take gk) wo hpt hcb hnb ho (hsk.more (Nat.le_of_lt hgl)) (by omega) hhl
          rw [hfe] at hfeed
          have HS := Lib.hid (And.intro hsd (And.intro hfd (And.intro hend (And.intro hgot (And.intro hpt hbw)))))
          clear hfe hfd hend hfed hpt hsk hsd hst
          go_wp2_with fail
          refine hfeed.mono ?_
          rintro e w1 ⟨A1, c1, rfl, hown1, ⟨Ah, ch, hpk, hpb, hph⟩, hg1⟩
          simp only at hown1 hpk hpb hph
          have hgot1 : U.Own w1 (g + 1) 5 Ag got.length cg got := own_kept HS.out.2.2.2.1 hg1 (by omega)
          have hol := Gr.Fed.len HS.out.2.1 hnb4 HQ.out.2.2.1 HQ.out.2.2.2.2.2.2
          have hlen5 : got.length + ot.length ≤ 140737488355328 := by have := hol.1; rw [List.length_append] at this; omega
          have hz1 : g + 1 ≤ w1.heap.size := Blk.lt hpk
          have hob := hown1.bs
          clear hfeed hown1
          go_wp2_with (at_builtin; refine wpList_app bt rfl (.tmp 70) (.tmp 71) rfl (g + 1) Ag got.length cg got rfl hgot1 _ A1 ot.length c1 ot rfl hob hlen5 hz1 ?_; intro A5 c5 w5 hown5 hg5 _)
          have hne : ∀ j, (Value.slice Ag got.length cg).ownBlock = some j → g + 1 ≤ j ∧ j < wo.heap.size := fun j hj => World.ownsRow.lt HS.out.2.2.2.1 j hj
          have hpk5 : Blk w5 g 122 (ptC Ab nb cb Ah hs'.length ch o' 0) := hpk.grown hg5 (fun e => by have := (hne g e.symm).1; omega)
          have hpb5 : BS w5 g Ab nb base := hpb.grown hg5 (by omega) (fun j hj => by have := (hne j hj).1; omega)
          have hph5 : U.Own w5 wo.heap.size 5 Ah hs'.length ch hs' := World.ownsRow.kept hph hg5 (by
            cases hA : (Value.slice Ah hs'.length ch).ownBlock with
            | none => exact .inl rfl
            | some j => exact .inr (fun e => by have := (World.ownsRow.lt hph j hA).1; have := (hne j e.symm).2; omega))
          have hb1 : Below g wo w1 := (Below.refl g wo).grown hg1 (by omega) (fun j hj => by injection hj; omega)
          have hb5 : Below g wo w5 := hb1.grown hg5 (by omega) (fun j hj => by have := (hne j hj).1; omega)
          have hpt5 : PtS w5 g Ab nb cb base hs' o' 0 := ⟨Ah, ch, hpk5, hpb5, Dat.own hph5, U.Own.le hph5⟩
          clear hg1 hg5 hpk hpb hph hpk5 hpb5 hph5 hne hob hgot1
          go_wp2_with fail
          go_roundg (0)
          case measure => omega
          case rel => exact ⟨some ⟨sb, so + gk, none⟩, cs - gk, [], A5, c5, got ++ ot, o', hs', rfl, by omega, BS.nil _ _ _, by rw [List.length_append], by rw [List.length_append]; exact hown5, hpt5, by have h9 := HS.out.2.1; rw [List.drop_of_length_le (by rw [hll]; exact Nat.le_refl _)] at h9; exact h9, by have := hol.2.1; omega, by have := hol.2.2; have := HQ.out.1; omega, (HS.out.2.2.2.2.2).trans hb5, fun _ => HS.out.2.2.1 (List.drop_of_length_le (by rw [hll]; exact Nat.le_refl _))⟩
      · by_cases hcc : cs = gk
        · have k2 : gk ≤ gk := Nat.le_refl _
          rw [← htri] at hwK
          have z3 : decide ((gk : Int) < (gk : Int)) = false := by simp
          have z4 : decide (gk < gk) = false := by simp
          clear htri
          obtain ⟨sb, so, rfl, _⟩ := hst.2 hpos
          obtain rfl : gk = cs := by omega
          have hsk : BS wo g (some ⟨sb, so, none⟩) gk (left.take gk) := hst.take k2
          have hsd : BS wo g (some ⟨sb, so + gk, none⟩) (gk - gk) (left.drop gk) := hst.drop k2
          obtain ⟨ot, o', hs', hfe, hfd, hend⟩ := Gr.Fed.next hfed (by omega) HQ.out.2.2.1 HQ.out.2.2.2.2.2.2 gk
          have hfeed := feed_okN g Ab nb cb base hs o (some ⟨sb, so, none⟩) gk gk (left.take gk) wo hpt hcb hnb ho (hsk.more (Nat.le_of_lt hgl)) (by omega) hhl
          rw [hfe] at hfeed
          have HS := Lib.hid (And.intro hsd (And.intro hfd (And.intro hend (And.intro hgot (And.intro hpt hbw)))))
          clear hfe hfd hend hfed hpt hsk hsd hst
          go_wp2_with fail
          refine hfeed.mono ?_
          rintro e w1 ⟨A1, c1, rfl, hown1, ⟨Ah, ch, hpk, hpb, hph⟩, hg1⟩
          simp only at hown1 hpk hpb hph
          have hgot1 : U.Own w1 (g + 1) 5 Ag got.length cg got := own_kept HS.out.2.2.2.1 hg1 (by omega)
          have hol := Gr.Fed.len HS.out.2.1 hnb4 HQ.out.2.2.1 HQ.out.2.2.2.2.2.2
          have hlen5 : got.length + ot.length ≤ 140737488355328 := by have := hol.1; rw [List.length_append] at this; omega
          have hz1 : g + 1 ≤ w1.heap.size := Blk.lt hpk
          have hob := hown1.bs
          clear hfeed hown1
          go_wp2_with (at_builtin; refine wpList_app bt rfl (.tmp 70) (.tmp 71) rfl (g + 1) Ag got.length cg got rfl hgot1 _ A1 ot.length c1 ot rfl hob hlen5 hz1 ?_; intro A5 c5 w5 hown5 hg5 _)
          have hne : ∀ j, (Value.slice Ag got.length cg).ownBlock = some j → g + 1 ≤ j ∧ j < wo.heap.size := fun j hj => World.ownsRow.lt HS.out.2.2.2.1 j hj
          have hpk5 : Blk w5 g 122 (ptC Ab nb cb Ah hs'.length ch o' 0) := hpk.grown hg5 (fun e => by have := (hne g e.symm).1; omega)
          have hpb5 : BS w5 g Ab nb base := hpb.grown hg5 (by omega) (fun j hj => by have := (hne j hj).1; omega)
          have hph5 : U.Own w5 wo.heap.size 5 Ah hs'.length ch hs' := World.ownsRow.kept hph hg5 (by
            cases hA : (Value.slice Ah hs'.length ch).ownBlock with
            | none => exact .inl rfl
            | some j => exact .inr (fun e => by have := (World.ownsRow.lt hph j hA).1; have := (hne j e.symm).2; omega))
          have hb1 : Below g wo w1 := (Below.refl g wo).grown hg1 (by omega) (fun j hj => by injection hj; omega)
          have hb5 : Below g wo w5 := hb1.grown hg5 (by omega) (fun j hj => by have := (hne j hj).1; omega)
          have hpt5 : PtS w5 g Ab nb cb base hs' o' 0 := ⟨Ah, ch, hpk5, hpb5, Dat.own hph5, U.Own.le hph5⟩
          clear hg1 hg5 hpk hpb hph hpk5 hpb5 hph5 hne hob hgot1
          go_wp2_with fail
          go_roundg (0)
          case measure => omega
          case rel => exact ⟨some ⟨sb, so, none⟩, 0, [], A5, c5, got ++ ot, o', hs', rfl, by omega, BS.nil _ _ _, by rw [List.length_append], by rw [List.length_append]; exact hown5, hpt5, by have h9 := HS.out.2.1; rw [List.drop_of_length_le (by rw [hll]; exact Nat.le_refl _)] at h9; exact h9, by have := hol.2.1; omega, by have := hol.2.2; have := HQ.out.1; omega, (HS.out.2.2.2.2.2).trans hb5, fun _ => HS.out.2.2.1 (List.drop_of_length_le (by rw [hll]; exact Nat.le_refl _))⟩
        · have k2 : gk ≤ gk := Nat.le_refl _
          rw [← htri] at hwK
          have z3 : decide ((gk : Int) < (gk : Int)) = false := by simp
          have z4 : decide (gk < gk) = false := by simp
          clear htri
          obtain ⟨sb, so, rfl, _⟩ := hst.2 hpos
          have hck : ¬ cs = gk := hcc
          have hsk : BS wo g (some ⟨sb, so, none⟩) gk (left.take gk) := hst.take k2
          have hsd : BS wo g (some ⟨sb, so + gk, none⟩) (gk - gk) (left.drop gk) := hst.drop k2
          obtain ⟨ot, o', hs', hfe, hfd, hend⟩ := Gr.Fed.next hfed (by omega) HQ.out.2.2.1 HQ.out.2.2.2.2.2.2 gk
          have hfeed := feed_okN g Ab nb cb base hs o (some ⟨sb, so, none⟩) gk cs (left.take gk) wo hpt hcb hnb ho (hsk.more (Nat.le_of_lt hgl)) (by omega) hhl
          rw [hfe] at hfeed
          have HS := Lib.hid (And.intro hsd (And.intro hfd (And.intro hend (And.intro hgot (And.intro hpt hbw)))))
          clear hfe hfd hend hfed hpt hsk hsd hst
          go_wp2_with fail
          refine hfeed.mono ?_
          rintro e w1 ⟨A1, c1, rfl, hown1, ⟨Ah, ch, hpk, hpb, hph⟩, hg1⟩
          simp only at hown1 hpk hpb hph
          have hgot1 : U.Own w1 (g + 1) 5 Ag got.length cg got := own_kept HS.out.2.2.2.1 hg1 (by omega)
          have hol := Gr.Fed.len HS.out.2.1 hnb4 HQ.out.2.2.1 HQ.out.2.2.2.2.2.2
          have hlen5 : got.length + ot.length ≤ 140737488355328 := by have := hol.1; rw [List.length_append] at this; omega
          have hz1 : g + 1 ≤ w1.heap.size := Blk.lt hpk
          have hob := hown1.bs
          clear hfeed hown1
          go_wp2_with (at_builtin; refine wpList_app bt rfl (.tmp 70) (.tmp 71) rfl (g + 1) Ag got.length cg got rfl hgot1 _ A1 ot.length c1 ot rfl hob hlen5 hz1 ?_; intro A5 c5 w5 hown5 hg5 _)
          have hne : ∀ j, (Value.slice Ag got.length cg).ownBlock = some j → g + 1 ≤ j ∧ j < wo.heap.size := fun j hj => World.ownsRow.lt HS.out.2.2.2.1 j hj
          have hpk5 : Blk w5 g 122 (ptC Ab nb cb Ah hs'.length ch o' 0) := hpk.grown hg5 (fun e => by have := (hne g e.symm).1; omega)
          have hpb5 : BS w5 g Ab nb base := hpb.grown hg5 (by omega) (fun j hj => by have := (hne j hj).1; omega)
          have hph5 : U.Own w5 wo.heap.size 5 Ah hs'.length ch hs' := World.ownsRow.kept hph hg5 (by
            cases hA : (Value.slice Ah hs'.length ch).ownBlock with
            | none => exact .inl rfl
            | some j => exact .inr (fun e => by have := (World.ownsRow.lt hph j hA).1; have := (hne j e.symm).2; omega))
          have hb1 : Below g wo w1 := (Below.refl g wo).grown hg1 (by omega) (fun j hj => by injection hj; omega)
          have hb5 : Below g wo w5 := hb1.grown hg5 (by omega) (fun j hj => by have := (hne j hj).1; omega)
          have hpt5 : PtS w5 g Ab nb cb base hs' o' 0 := ⟨Ah, ch, hpk5, hpb5, Dat.own hph5, U.Own.le hph5⟩
          clear hg1 hg5 hpk hpb hph hpk5 hpb5 hph5 hne hob hgot1
          go_wp2_with fail
          go_roundg (0)
          case measure => omega
          case rel => exact ⟨some ⟨sb, so + gk, none⟩, cs - gk, [], A5, c5, got ++ ot, o', hs', rfl, by omega, BS.nil _ _ _, by rw [List.length_append], by rw [List.length_append]; exact hown5, hpt5, by have h9 := HS.out.2.1; rw [List.drop_of_length_le (by rw [hll]; exact Nat.le_refl _)] at h9; exact h9, by have := hol.2.1; omega, by have := hol.2.2; have := HQ.out.1; omega, (HS.out.2.2.2.2.2).trans hb5, fun _ => HS.out.2.2.1 (List.drop_of_length_le (by rw [hll]; exact Nat.le_refl _))⟩
      · have k2 : K ≤ gk := by omega
        have z3 : decide ((gk : Int) < (K : Int)) = false := by simp; omega
        have z4 : decide (gk < K) = false := by simp; omega
        obtain ⟨sb, so, rfl, _⟩ := hst.2 hpos
        have hck : ¬ cs = K := by omega
        have hkc : K ≤ cs := by omega
        have hsk : BS wo g (some ⟨sb, so, none⟩) K (left.take K) := hst.take k2
        have hsd : BS wo g (some ⟨sb, so + K, none⟩) (gk - K) (left.drop K) := hst.drop k2
        obtain ⟨ot, o', hs', hfe, hfd, hend⟩ := Gr.Fed.next hfed (by omega) HQ.out.2.2.1 HQ.out.2.2.2.2.2.2 K
        have hfeed := feed_okN g Ab nb cb base hs o (some ⟨sb, so, none⟩) K cs (left.take K) wo hpt hcb hnb ho (hsk.more (Nat.le_of_lt hgl)) (by omega) hhl
        rw [hfe] at hfeed
        have HS := Lib.hid (And.intro hsd (And.intro hfd (And.intro hend (And.intro hgot (And.intro hpt hbw)))))
        clear hfe hfd hend hfed hpt hsk hsd hst
        go_wp2_with fail
        refine hfeed.mono ?_
        rintro e w1 ⟨A1, c1, rfl, hown1, ⟨Ah, ch, hpk, hpb, hph⟩, hg1⟩
        simp only at hown1 hpk hpb hph
        have hgot1 : U.Own w1 (g + 1) 5 Ag got.length cg got := own_kept HS.out.2.2.2.1 hg1 (by omega)
        have hol := Gr.Fed.len HS.out.2.1 hnb4 HQ.out.2.2.1 HQ.out.2.2.2.2.2.2
        have hlen5 : got.length + ot.length ≤ 140737488355328 := by have := hol.1; rw [List.length_append] at this; omega
        have hz1 : g + 1 ≤ w1.heap.size := Blk.lt hpk
        have hob := hown1.bs
        clear hfeed hown1
        go_wp2_with (at_builtin; refine wpList_app bt rfl (.tmp 70) (.tmp 71) rfl (g + 1) Ag got.length cg got rfl hgot1 _ A1 ot.length c1 ot rfl hob hlen5 hz1 ?_; intro A5 c5 w5 hown5 hg5 _)
        have hne : ∀ j, (Value.slice Ag got.length cg).ownBlock = some j → g + 1 ≤ j ∧ j < wo.heap.size := fun j hj => World.ownsRow.lt HS.out.2.2.2.1 j hj
        have hpk5 : Blk w5 g 122 (ptC Ab nb cb Ah hs'.length ch o' 0) := hpk.grown hg5 (fun e => by have := (hne g e.symm).1; omega)
        have hpb5 : BS w5 g Ab nb base := hpb.grown hg5 (by omega) (fun j hj => by have := (hne j hj).1; omega)
        have hph5 : U.Own w5 wo.heap.size 5 Ah hs'.length ch hs' := World.ownsRow.kept hph hg5 (by
          cases hA : (Value.slice Ah hs'.length ch).ownBlock with
          | none => exact .inl rfl
          | some j => exact .inr (fun e => by have := (World.ownsRow.lt hph j hA).1; have := (hne j e.symm).2; omega))
        have hb1 : Below g wo w1 := (Below.refl g wo).grown hg1 (by omega) (fun j hj => by injection hj; omega)
        have hb5 : Below g wo w5 := hb1.grown hg5 (by omega) (fun j hj => by have := (hne j hj).1; omega)
        have hpt5 : PtS w5 g Ab nb cb base hs' o' 0 := ⟨Ah, ch, hpk5, hpb5, Dat.own hph5, U.Own.le hph5⟩
        clear hg1 hg5 hpk hpb hph hpk5 hpb5 hph5 hne hob hgot1
        go_wp2_with fail
        go_roundg (gk - K)
        case measure => omega
        case rel => exact ⟨some ⟨sb, so + K, none⟩, cs - K, left.drop K, A5, c5, got ++ ot, o', hs', rfl, by omega, HS.out.1.below hb5, by rw [List.length_append], by rw [List.length_append]; exact hown5, hpt5, HS.out.2.1, by have := hol.2.1; omega, by have := hol.2.2; have := HQ.out.1; omega, (HS.out.2.2.2.2.2).trans hb5, HS.out.2.2.1⟩
    · obtain rfl : gk = 0 := by omega
      have hle : left = [] := List.eq_nil_of_length_eq_zero hll
      obtain ⟨hg1, hg2, hg3⟩ := hfin hle
      subst hle
      subst hg3
      rw [← outL_outB, HO.out] at hg1
      have HG1 := Lib.hid hg1
      rw [HQ.out.2.2.2.1] at hg2
      have hom : o = m := by omega
      rw [hom] at hpt
      have h8o : Below w8.heap.size w8 wo := HSP.out.2.2.2.2.trans (by rw [← HG.out]; exact hbw)
      have hbw' := HSP.out.2.2.2.1.trans (h8o.mono HSP.out.2.2.2.1.size)
      have hsp' : SP wo A7 n7 Q := HSP.out.1.below h8o
      have hbd' := HSP.out.2.1.below (h8o.mono HSP.out.2.2.2.1.size)
      have hbb' := HSP.out.2.2.1.below (h8o.mono HSP.out.2.2.2.1.size)
      have hap := apply_any Ab A7 nb cb n7 c7 base Q wo (hbb'.more hbw'.size) hcb hnb hsp' HQ.out.2.2.2.2.1 hn7 (by have := HQ.out.2.2.2.2.2.1; omega)
      have hre : Gr.applyP base Q (nb : Int) = (data, 0) := by
        unfold Gr.applyP
        rw [HQ.out.2.1]
        simp only [ne_eq, not_true_eq_false, if_false]
        rw [show Gr.applyB base Q = outL base Q from rfl, HO.out]
      rw [hre] at hap
      obtain ⟨Ah, ch, hpk, hpb, hph, hpc⟩ := hpt
      have hgo := hgot.bs
      have hdl := HB.out.2.1
      have HD := Lib.hid hdl
      clear hfin hfed hg2 hll hst hgot hsp' hre hpb hph hbb' hdl hg1 hom
      go_wp2_with fail
      refine hap.mono ?_
      rintro e w10 ⟨A10, c10, rfl, hbs10, hb10⟩
      simp only at hbs10
      have hbw10 := hbw'.trans (hb10.mono hbw'.size)
      have hgo10 := hgo.below hb10
      have hbd10 := hbd'.below (hb10.mono hbw'.size)
      have hpk10 := hpk.stay hb10
      clear hap hgo hpk hbd'
      go_wp2_with fail
      refine (same_any Ag got.length cg got Ad m cd data w10 _ _ hgo10 hbd10).mono ?_
      rintro e w11 ⟨rfl, rfl⟩
      rw [show (got == data) = true from by rw [HG1.out]; exact BEq.rfl]
      go_wp2_with fail
      refine (end_any hpk10).mono ?_
      rintro e w11 ⟨rfl, hd11⟩
      rw [show endP 0 ([] : List UInt8).length = 0 from rfl]
      have hb11 : Below w10.heap.size w10 w11 := hd11.below _
      have hpk11 := hpk10.stay hb11
      have hbw11 := hbw10.trans (hb11.mono hbw10.size)
      go_wp2_with fail
      refine (out_any hpk11).mono ?_
      rintro e w12 ⟨rfl, hd12⟩
      have hb12 : Below w11.heap.size w11 w12 := hd12.below _
      have hbw12 := hbw11.trans (hb12.mono hbw11.size)
      have hb1012 := hb11.trans (hb12.mono hb11.size)
      go_wp2_with fail
      refine (same_any A10 data.length c10 data Ad m cd data w12 _ _ (hbs10.below hb1012) (hbd10.below (hb1012.mono hbw10.size))).mono ?_
      rintro e w13 ⟨rfl, rfl⟩
      rw [BEq.rfl]
      go_wp2_with fail
      refine (hlv w12).mono ?_
      rintro e w13 ⟨rfl, hb13⟩
      go_wp2_with fail
      go_ret
      exact ⟨rfl, hbw12.trans (hb13.mono hbw12.size)⟩
end Go.Proofs.YtmnanbcinfdbaaaDoor
end
