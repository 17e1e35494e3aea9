/- The walk of a patch's Feed; conditions: none beyond its hypotheses. -/
import Derived.Test.YtmnanbcinfdbaaaDoorMgFp6
import Derived.Deep.DeepCutAuto
import Derived.Outline
set_option linter.unusedSimpArgs false
set_option linter.unusedVariables false
section
namespace Go.Proofs.Gr
theorem checkP_one {n : Int} {s : Stp} (hn : n ≤ 4096) : checkP [s] n = if okS n s = true then 0 else 2 := by
  by_cases h : okS n s = true
  · have := okS_len h hn
    rw [if_pos h]
    unfold checkP outs stepOut
    simp [h]
    rw [if_neg (by omega)]
  · rw [if_neg h]
    have h : okS n s = false := by simpa using h
    exact checkP_bad (k := 0) rfl h
theorem fd_any {n : Int} {base out rest : List UInt8} {o m k e : Nat} {s : Stp} (h : nextP rest = (s, k, e)) (R : List UInt8 × Nat × List UInt8 × Nat) (hR : fd n base (m + 1) out o rest = R) :
    (e = 11 ∧ R = (out, o, rest, 0)) ∨ (e ≠ 11 ∧ e ≠ 0 ∧ R = (out, o, [], e)) ∨ (e = 0 ∧ okS n s = false ∧ R = (out, o, [], 2)) ∨ (e = 0 ∧ okS n s = true ∧ 4096 - (o : Int) < s.l ∧ R = (out, o, [], 13)) ∨
      (e = 0 ∧ okS n s = true ∧ ¬ 4096 - (o : Int) < s.l ∧ fd n base m (out ++ doesP base s) (o + s.l.toNat) (rest.drop k) = R) := by
  by_cases h1 : e = 11
  · subst h1; exact .inl ⟨rfl, by rw [← hR, fd_end h]⟩
  · by_cases h0 : e = 0
    · subst h0
      by_cases h2 : okS n s = true
      · by_cases h3 : 4096 - (o : Int) < s.l
        · exact .inr (.inr (.inr (.inl ⟨rfl, h2, h3, by rw [← hR, fd_long h h2 h3]⟩)))
        · exact .inr (.inr (.inr (.inr ⟨rfl, h2, h3, by rw [← hR, fd_go h h2 h3]⟩)))
      · have h2 : okS n s = false := by simpa using h2
        exact .inr (.inr (.inl ⟨rfl, h2, by rw [← hR, fd_wrong h h2]⟩))
    · exact .inr (.inl ⟨h1, h0, by rw [← hR, fd_bad h h1 h0]⟩)
end Go.Proofs.Gr
namespace Go.Proofs.YtmnanbcinfdbaaaDoor
open Go.RowKit Go.Proofs.U
set_option linter.unusedVariables false

/-- a patch, as it stands -/
def PtS (w : World) (g : Nat) (Ab : Option Addr) (nb cb : Nat) (base hs : List UInt8) (o f : Nat) : Prop :=
  ∃ Ah ch, Blk w g 122 (ptC Ab nb cb Ah hs.length ch o f) ∧ BS w g Ab nb base ∧ Dat w 0 Ah hs ∧ hs.length ≤ ch
/-- what Feed gives -/
def FeedRet (w : World) (g : Nat) (Ab : Option Addr) (nb cb : Nat) (base : List UInt8) (R : List UInt8 × Nat × List UInt8 × Nat) (e : Ending) (w' : World) : Prop :=
  ∃ A c, e = .returned (.tuple #[.slice A R.1.length c, .int .i64 ((R.2.2.2 : Nat) : Int)]) ∧ Own w' w.heap.size 5 A R.1.length c R.1 ∧ PtS w' g Ab nb cb base R.2.2.1 R.2.1 R.2.2.2 ∧ w.grownBy w' (some g)

/-- what Feed gives, what it holds apart from all that was there -/
def FeedRetN (w : World) (g : Nat) (Ab : Option Addr) (nb cb : Nat) (base : List UInt8) (R : List UInt8 × Nat × List UInt8 × Nat) (e : Ending) (w' : World) : Prop :=
  ∃ A c, e = .returned (.tuple #[.slice A R.1.length c, .int .i64 ((R.2.2.2 : Nat) : Int)]) ∧ Own w' w.heap.size 5 A R.1.length c R.1 ∧ (∃ Ah ch, Blk w' g 122 (ptC Ab nb cb Ah R.2.2.1.length ch R.2.1 R.2.2.2) ∧ BS w' g Ab nb base ∧ Own w' w.heap.size 5 Ah R.2.2.1.length ch R.2.2.1) ∧ w.grownBy w' (some g)
theorem FeedRetN.old {w w' : World} {g nb cb : Nat} {Ab : Option Addr} {base : List UInt8} {R : List UInt8 × Nat × List UInt8 × Nat} {e : Ending} (h : FeedRetN w g Ab nb cb base R e w') : FeedRet w g Ab nb cb base R e w' := by
  obtain ⟨A, c, h1, h2, ⟨Ah, ch, h3, h4, h5⟩, h6⟩ := h
  exact ⟨A, c, h1, h2, ⟨Ah, ch, h3, h4, Dat.own h5, h5.le⟩, h6⟩
/-- nothing panics: what a panic would leave need not be carried -/
theorem wp_normal {P : Program} {s : Code} {K : Act → World → Prop} {Q' : Exit → Act → World → Prop} {a : Act} {w : World} (h : s.wp P (Exit.then K (fun _ _ _ => False)) a w) : s.wp P (Exit.then K Q') a w := by
  refine wp_mono h ?_
  intro e a' w' hq
  cases e with
  | normal => exact hq
  | exit id => exact hq.elim
  | goto l => exact hq.elim
  | ret => exact hq.elim
  | panic ch => exact hq.elim
  | outgrown => exact hq.elim
def OutRet (w : World) (x : List UInt8) (e : Ending) (w' : World) : Prop := ∃ D c, e = .returned (.slice D x.length c) ∧ BS w' w'.heap.size D x.length x ∧ Below w.heap.size w w'
theorem does_any (Ab Ad : Option Addr) (nb cb cd : Nat) (s : Gr.Stp) (base : List UInt8) (w : World) (hb : BS w w.heap.size Ab nb base) (hd : BS w w.heap.size Ad s.d.length s.d) (hok : Gr.okS nb s = true) (hcb : nb ≤ cb) (hnb : nb ≤ 4096) :
    Calls Tryd.prog 96 #[.slice Ab nb cb, .agg #[.int .i64 s.k, .int .i64 s.f, .int .i64 s.l, .slice Ad s.d.length cd]] w (OutRet w (Gr.doesP base s)) := by
  have hl := hb.1
  rcases Gr.okS_inv hok (by omega) with ⟨f, l, rfl, hf, hl1, hl4⟩ | ⟨d, rfl, hd1, hd2⟩
  · have hfl : f + l ≤ nb := by
      unfold Gr.okS Gr.okR at hok
      simp at hok
      omega
    obtain ⟨b, off, rfl, hlt, _⟩ := hb.2 (by omega)
    refine (does_copy b off nb cb 0 cd f l Ad hfl hl1 hcb hnb w).mono ?_
    rintro e w' ⟨rfl, hbw⟩
    have hx : Gr.doesP base ⟨1, f, l, []⟩ = (base.drop f).take l := by simp [Gr.doesP]
    rw [hx]
    have hln : ((base.drop f).take l).length = l := by simp; omega
    refine ⟨_, _, by rw [hln], ?_, hbw⟩
    rw [hln]
    exact (((hb.drop (k := f) (by omega)).take (k := l) (by omega)).below hbw).more hbw.size
  · refine (does_lit Ab Ad nb cb d.length cd 2 0 d.length (by decide) w).mono ?_
    rintro e w' ⟨rfl, hbw⟩
    exact ⟨Ad, cd, rfl, (hd.below hbw).more hbw.size, hbw⟩
theorem feed_end {w w5 w' : World} {g rb nb cb hl ch c3 co o f q : Nat} {Ab Ah A3 Ao A' : Option Addr} {c' : Nat} {base rest out : List UInt8} {R : List UInt8 × Nat × List UInt8 × Nat} {fi : Int} (hF : FdW w w5 g rb Ab nb cb Ah hl ch base o f A3 c3 rest Ao co out)
    (hk : (fi = 0 ∧ Blk w' g 122 (ptC Ab nb cb A' rest.length c' o fi) ∧ Own w' (w5.drewN q).heap.size 5 A' rest.length c' rest) ∨ (fi ≠ 0 ∧ Blk w' g 122 (ptC Ab nb cb none 0 0 o fi))) (hg : (w5.drewN q).grownBy w' (some g))
    (hR : R = (out, o, (if f = 0 then rest else []), f)) (hfi : fi = (f : Int) := by rfl) : FeedRetN w g Ab nb cb base R (.returned (.tuple #[.slice Ao out.length co, .int .i64 fi])) w' := by
  subst hR
  subst hfi
  have hlt := hF.lt
  have hl0 := hF.l0
  have hF' : Own (w5.drewN q) (rb + 1) 5 Ao out.length co out := hF.ot
  have hbs : BS w' g Ab nb base := (hF.bs.drewN q).grown hg (Nat.le_of_lt hF.pk.lt) (fun k hk => by injection hk; omega)
  have hgr : w.grownBy w' (some g) := only_trans (only_drewN hF.gr q) hg
  refine ⟨Ao, co, rfl, Own.mono (own_kept hF' hg (by omega)) (by omega), ?_, hgr⟩
  rcases hk with ⟨h0, hk, hown⟩ | ⟨h0, hk⟩
  · have h0 : f = 0 := by omega
    subst h0
    exact ⟨A', c', hk, hbs, Own.mono hown hF.gr.size⟩
  · have h0 : f ≠ 0 := by omega
    simp only [if_neg h0]
    exact ⟨none, 0, hk, hbs, Own.nil _ _ _⟩
set_option maxRecDepth 100000 in
set_option maxHeartbeats 4000000 in
theorem feed_okN (g : Nat) (Ab : Option Addr) (nb cb : Nat) (base hs : List UInt8) (o : Nat) (A : Option Addr) (n c : Nat) (b : List UInt8) (w : World)
    (hp : PtS w g Ab nb cb base hs o 0) (hcb : nb ≤ cb) (hnb : nb ≤ 4096) (ho : o ≤ 4096) (hb : BS w w.heap.size A n b) (hn : n ≤ 1000000) (hhs : hs.length ≤ 1000000) :
    Calls Tryd.prog 60 #[.pointer (some ⟨g, 0, none⟩), .slice A n c] w (FeedRetN w g Ab nb cb base (Gr.feedP nb base hs o 0 b)) := by
  obtain ⟨Ah, ch, hk, hbase, hheld, hch⟩ := hp
  obtain ⟨R, hR⟩ : ∃ R, R = Gr.feedP nb base hs o 0 b := ⟨_, rfl⟩
  rw [← hR]
  obtain ⟨hzS, _⟩ := Go.zero_of_info zeroS
  have c0 := hk.cell 0
  have c1 := hk.cell 1
  have c2 := hk.cell 2
  have c3 := hk.cell 3
  simp [ptC] at c0 c1 c2 c3
  have hbl := hb.1
  have hgl := hk.lt
  have HB := Lib.hid (And.intro hR (And.intro hbl (And.intro hb (And.intro hbase (And.intro hheld (And.intro hch hk))))))
  clear hR hbl hb hbase hheld hch
  go_enter_defers Tryd.func60, Tryd.ntmps60
  go_wp2_with fail
  go_step3
  go_wp2_with fail
  refine (fault_any hk).mono ?_
  rintro e w1 ⟨rfl, ⟨q1, rfl⟩⟩
  have hk1 := hk.drewN q1
  replace c0 := (show (w.drewN q1).cell? _ = _ from c0)
  replace c1 := (show (w.drewN q1).cell? _ = _ from c1)
  have hb1 : ∀ o, Below w.heap.size w ((w.drewN q1).alloc o) := fun o => (below_drewN (Below.refl _ _) q1).alloc (Nat.le_refl _) o
  have hz1 : ∀ o, ((w.drewN q1).alloc o).heap.size = w.heap.size + 1 := fun o => World.size_alloc _ _
  have hq1 : ∀ cs T, Blk ((w.drewN q1).alloc (.cells cs T)) w.heap.size T cs := fun cs T => Blk.new (w.drewN q1) T cs
  have HQ := Lib.hid (And.intro hb1 (And.intro hz1 hq1))
  clear hb1 hz1 hq1 hk hk1
  go_wp2_with fail
  refine (concat_any w.heap.size Ah A hs.length n ch c w.heap.size hs b _ (HQ.out.2.2 _ _) (HB.out.2.2.2.2.1.1.below (HQ.out.1 _)) (HB.out.2.2.1.below (HQ.out.1 _)) (HQ.out.1 _).size (by omega) (by omega)).mono ?_
  rintro e w2 ⟨A2, c2', rfl, hown2, hb2⟩
  clear c0 c1 c2 c3
  have hbw2 : Below w.heap.size w w2 := (HQ.out.1 _).trans (hb2.mono (HQ.out.1 _).size)
  have hz2 : w.heap.size < w2.heap.size := by have := hb2.size; rw [HQ.out.2.1] at this; omega
  obtain ⟨cc, hcc⟩ : ∃ cc, cc = (hs ++ b) := ⟨_, rfl⟩
  have hcl : cc.length = hs.length + n := by rw [hcc, List.length_append, HB.out.2.1]
  rw [← hcc, ← hcl] at hown2
  rw [← hcl]
  have hF : ∀ cs, cs = #[.slice A2 cc.length c2'] → FdW w (w2.alloc (.cells cs 22)) g w2.heap.size Ab nb cb Ah hs.length ch base o 0 A2 c2' cc none 0 [] := by
    rintro _ rfl
    have hal : Below w2.heap.size w2 (w2.alloc (.cells #[.slice A2 cc.length c2'] 22)) := (Below.refl _ _).alloc (Nat.le_refl _) _
    refine ⟨((HB.out.2.2.2.2.2.2.stay hbw2).alloc _), Blk.new _ _ _, hown2.bs.below hal, Own.nil _ _ _, (HB.out.2.2.2.1.below (hbw2.mono (Nat.le_of_lt hgl))).below (hal.mono (by omega)), only_below (World.grownBy.refl _ _) (hbw2.trans (hal.mono (by omega))), hgl, by omega⟩
  have hfd : Gr.fd nb base (cc.length + 1) [] o cc = R := by rw [HB.out.1, hcc]; unfold Gr.feedP; simp
  have hccl : cc.length ≤ 2000000 := by omega
  have hcle := hown2.le
  have HF := Lib.hid (And.intro hF hfd)
  clear hF hfd hown2 hb2 hbw2 hcl hcc
  go_wp2_with fail
  go_step3
  go_wp2_with fail
  obtain ⟨rb, hrb⟩ : ∃ rb, rb = w2.heap.size := ⟨_, rfl⟩
  rw [← hrb]
  go_loopg [4] (cc.length + 1) (fun r s4 wr => ∃ Ao co out o' A3 c3 rest, rest.length < r ∧ rest.length ≤ 2000000 ∧ rest.length ≤ c3 ∧ out.length + o = o' ∧ o' ≤ 4096 ∧ s4 = .slice Ao out.length co ∧ Gr.fd nb base r out o' rest = R ∧ FdW w wr g rb Ab nb cb Ah hs.length ch base o' 0 A3 c3 rest Ao co out)
  case atStart => exact ⟨none, 0, [], o, A2, c2', cc, by omega, hccl, hcle, by simp, ho, rfl, HF.out.2, by rw [hrb]; exact HF.out.1 _ rfl⟩
  case round =>
    clear hccl hcle HF HB HQ hhs hn
    obtain ⟨Ao, co, out, o', A3, c3, rest, hr1, hr2, hr3, ho2, ho3, rfl, hfd, hF⟩ := hrel
    obtain ⟨m, rfl⟩ : ∃ m, gk = m + 1 := ⟨gk - 1, by omega⟩
    clear hrb hz2
    obtain ⟨⟨s, kk, e1⟩, hnx⟩ : ∃ r, Gr.nextP rest = r := ⟨_, rfl⟩
    have hcs := Gr.fd_any hnx R hfd
    have HN := Lib.hid (And.intro hcs (And.intro hnx (And.intro hF ho2)))
    have hnxt := next_any A3 rest.length c3 wr.heap.size rest wr (hF.rs.more (Nat.le_of_lt hF.rlt)) (Nat.le_refl _) hr3 (by omega)
    rw [hnx] at hnxt
    have d0 := hF.rk.cell 0
    simp at d0
    have HNX := Lib.hid hnxt
    clear hcs hfd hF hnx hnxt ho2
    go_wp2_with fail
    refine HNX.out.mono ?_
    rintro e w4 ⟨Ad, cd, rfl, hdat, hcd, hb4⟩
    simp only at hdat hcd ⊢
    have hF4 := HN.out.2.2.1.below hb4
    obtain ⟨sk, sf, sl, sd⟩ := s
    simp only at hdat hcd ⊢
    clear d0 HNX
    have hd4 := hdat.1
    have hal4 : ∀ o, Below w4.heap.size w4 (w4.alloc o) := fun o => (Below.refl _ _).alloc (Nat.le_refl _) o
    have hk4 : ∀ cs T, Blk (w4.alloc (.cells cs T)) w4.heap.size T cs := fun cs T => Blk.new w4 T cs
    have H4 := Lib.hid (And.intro hal4 (And.intro hk4 (And.intro hF4 (And.intro hd4 hcd))))
    clear hal4 hk4 hF4 hd4 hcd hdat hb4
    have hF5 := H4.out.2.2.1.below (H4.out.1 (Obj.cells #[.int .i64 sk, .int .i64 sf, .int .i64 sl, .slice Ad sd.length cd] 68))
    have hs5 := H4.out.2.1 #[.int .i64 sk, .int .i64 sf, .int .i64 sl, .slice Ad sd.length cd] 68
    have hd5 := (H4.out.2.2.2.1.below (H4.out.1 (Obj.cells #[.int .i64 sk, .int .i64 sf, .int .i64 sl, .slice Ad sd.length cd] 68))).more (H4.out.1 (Obj.cells #[.int .i64 sk, .int .i64 sf, .int .i64 sl, .slice Ad sd.length cd] 68)).size
    have hcd5 := H4.out.2.2.2.2
    clear H4
    rcases (show e1 = 11 ∨ (e1 ≠ 11 ∧ e1 ≠ 0) ∨ e1 = 0 by omega) with rfl | ⟨h11, h00⟩ | rfl
    · go_wp2_with fail
      generalize (w4.alloc (Obj.cells #[.int .i64 sk, .int .i64 sf, .int .i64 sl, .slice Ad sd.length cd] 68)) = w5 at hF5 hs5 hd5 ⊢
      generalize w4.heap.size = sb at hs5 ⊢
      have e3 := hF5.pk.cell 3
      have z3 := hF5.pk.frozen 3
      simp [ptC] at e3
      have H5 := Lib.hid (And.intro hF5 (And.intro hs5 (And.intro hd5 hcd5)))
      clear hF5 hs5 hd5
      go_quiet (fail)
      go_wp2_with fail
      rw [Exit.noGoto_ret]
      refine leaves_cons (f := 94) (args := #[.pointer (some ⟨g, 0, none⟩), .pointer (some ⟨rb, 0, none⟩)]) (by simp) (by simp [go_sem]) ?_
      refine (keep_d g rb Ab Ah A3 nb cb hs.length ch rest.length c3 o' 0 rest .returning _ rb (H5.out.1.pk.drewN _) (H5.out.1.rk.drewN _) (H5.out.1.rs.drewN _) (Nat.le_of_lt H5.out.1.rlt) (by omega)).mono ?_
      rintro e u' w' ⟨rfl, rfl, A', c', hkp, hgk⟩
      exact ⟨_, results_tmp2 rfl _ _ _, feed_end H5.out.1 hkp hgk (by rcases HN.out.1 with ⟨_, h⟩ | ⟨h, _⟩ | ⟨h, _⟩ | ⟨h, _⟩ | ⟨h, _⟩ <;> first | exact h | exact absurd h (by decide))⟩
    · have b1 : ((e1 : Int) == 11) = false := by rw [beq_eq_false_iff_ne]; omega
      have b2 : ((e1 : Int) == 0) = false := by rw [beq_eq_false_iff_ne]; omega
      have b3 : ((e1 : Int) != 0) = true := by rw [bne_iff_ne]; omega
      go_wp2_with fail
      generalize (w4.alloc (Obj.cells #[.int .i64 sk, .int .i64 sf, .int .i64 sl, .slice Ad sd.length cd] 68)) = w5 at hF5 hs5 hd5 ⊢
      generalize w4.heap.size = sb at hs5 ⊢
      have e3 := hF5.pk.cell 3
      have z3 := hF5.pk.frozen 3
      simp [ptC] at e3
      have H5 := Lib.hid (And.intro hF5 (And.intro hs5 (And.intro hd5 hcd5)))
      clear hF5 hs5 hd5
      go_quiet (fail)
      go_wp2_with fail
      go_quiet (fail)
      go_wp2_with fail
      have hF7 := fun q => FdW.setE (H5.out.1.below (below_drewN (Below.refl _ _) q)) e1
      go_quiet (fail)
      go_wp2_with fail
      rw [Exit.noGoto_ret]
      refine leaves_cons (f := 94) (args := #[.pointer (some ⟨g, 0, none⟩), .pointer (some ⟨rb, 0, none⟩)]) (by simp) (by simp [go_sem]) ?_
      refine (keep_d g rb Ab Ah A3 nb cb hs.length ch rest.length c3 o' e1 rest .returning _ rb ((hF7 _).pk.drewN _) ((hF7 _).rk.drewN _) ((hF7 _).rs.drewN _) (Nat.le_of_lt (hF7 _).rlt) (by omega)).mono ?_
      rintro e u' w' ⟨rfl, rfl, A', c', hkp, hgk⟩
      refine ⟨_, results_tmp2 rfl _ _ _, feed_end (hF7 _) hkp hgk ?_⟩
      rw [if_neg h00]
      rcases HN.out.1 with ⟨h, _⟩ | ⟨_, _, h⟩ | ⟨h, _⟩ | ⟨h, _⟩ | ⟨h, _⟩ <;> first | exact h | (exfalso; omega)
    · have b1 : ((0 : Int) == 11) = false := by decide
      go_wp2_with fail
      generalize (w4.alloc (Obj.cells #[.int .i64 sk, .int .i64 sf, .int .i64 sl, .slice Ad sd.length cd] 68)) = w5 at hF5 hs5 hd5 ⊢
      generalize w4.heap.size = sb at hs5 ⊢
      have e3 := hF5.pk.cell 3
      have z3 := hF5.pk.frozen 3
      simp [ptC] at e3
      have H5 := Lib.hid (And.intro hF5 (And.intro hs5 (And.intro hd5 hcd5)))
      clear hF5 hs5 hd5
      go_cut [32] from 23 to 84 (fun s32 wx => s32 = .bool (!(Gr.okS nb ⟨sk, sf, sl, sd⟩)) ∧ FdW w wx g rb Ab nb cb Ah hs.length ch base o' 0 A3 c3 rest Ao co out ∧ Blk wx sb 68 #[.int .i64 sk, .int .i64 sf, .int .i64 sl, .slice Ad sd.length cd] ∧ BS wx wx.heap.size Ad sd.length sd)
      case first =>
        have e0 := H5.out.1.pk.cell 0
        simp [ptC] at e0
        have t0 := H5.out.2.1.cell 0
        have t1 := H5.out.2.1.cell 1
        have t2 := H5.out.2.1.cell 2
        have t3 := H5.out.2.1.cell 3
        simp at t0 t1 t2 t3
        have e0a : ∀ o, (w5.alloc o).cell? ⟨g, 0, none⟩ = some (.slice Ab nb cb) := fun o => ((Below.refl w5.heap.size w5).alloc (Nat.le_refl _) o).cell (p := ⟨g, 0, none⟩) H5.out.1.pk.lt |>.trans e0
        have hsp : SP (w5.alloc (Obj.cells #[.int .i64 sk, .int .i64 sf, .int .i64 sl, .slice Ad sd.length cd] 68)).drew (some ⟨w5.heap.size, 0, none⟩) 1 [⟨sk, sf, sl, sd⟩] := by
          have h1 : Below w5.heap.size w5 (w5.alloc (Obj.cells #[.int .i64 sk, .int .i64 sf, .int .i64 sl, .slice Ad sd.length cd] 68)) := (Below.refl _ _).alloc (Nat.le_refl _) _
          have h2 := Blk.new w5 68 #[.int .i64 sk, .int .i64 sf, .int .i64 sl, .slice Ad sd.length cd]
          have h3 := (H5.out.2.2.1.below h1).more h1.size
          refine SP.drewN (w := w5.alloc (Obj.cells #[.int .i64 sk, .int .i64 sf, .int .i64 sl, .slice Ad sd.length cd] 68)) ⟨rfl, fun _ => ⟨w5.heap.size, 0, rfl, h2.lt, fun j x hx => ?_⟩⟩ 1
          match j, hx with
          | 0, hx =>
            simp only [List.getElem?_cons_zero, Option.some.injEq] at hx
            subst hx
            exact ⟨Ad, cd, h2.cell 0, h2.cell 1, h2.cell 2, h2.cell 3, H5.out.2.2.2, h3⟩
        obtain ⟨hr1, ⟨hr2, hr3⟩, ⟨hr4, hr5⟩, hr6⟩ := Gr.nextP_rng HN.out.2.1
        simp only at hr1 hr2 hr3 hr4 hr5 hr6
        have hrg : ∀ x ∈ [(⟨sk, sf, sl, sd⟩ : Gr.Stp)], Rng x := fun x hx => by
          simp only [List.mem_cons, List.not_mem_nil, or_false] at hx
          subst hx
          exact ⟨by simp only; omega, by simp only; omega, by simp only; omega⟩
        have hdx : dsum [(⟨sk, sf, sl, sd⟩ : Gr.Stp)] ≤ 20000 := by simp [dsum]; omega
        have hck := fun w' h' => dcheck_any (some ⟨w5.heap.size, 0, none⟩) 1 1 [⟨sk, sf, sl, sd⟩] nb w' h' hrg (by omega) hdx (by omega)
        rw [Gr.checkP_one (by omega)] at hck
        cases hok : Gr.okS nb ⟨sk, sf, sl, sd⟩
        all_goals
          rw [hok] at hck
          simp only [Bool.false_eq_true, if_false, if_true] at hck
          have HSP := Lib.hid (And.intro hck hsp)
          have HOK := Lib.hid hok
          clear hck hsp hrg hdx hok hr1 hr2 hr3 hr4 hr5 hr6
          refine wp_normal ?_
          go_region_law (first
            | (go_simp
               go_at_call 56
               refine (HSP.out.1 _ HSP.out.2).mono ?_
               rintro e w6 ⟨rfl, hb6⟩
               go_simp))
          all_goals
            have hb6' : Below w5.heap.size w5 w6 := ((Below.refl w5.heap.size w5).alloc (Nat.le_refl _) _).drew.trans (hb6.mono (by simp))
            go_wp2_with fail
            go_meet
            exact ⟨by rw [HOK.out]; rfl, H5.out.1.below hb6', H5.out.2.1.stay hb6', (H5.out.2.2.1.below hb6').more hb6'.size⟩
      case rest =>
        obtain ⟨rfl, hF6, hs6, hd6⟩ := hcut
        clear e3 z3 H5
        have e2 := hF6.pk.cell 2
        have e3 := hF6.pk.cell 3
        have z2 := hF6.pk.frozen 2
        have z3 := hF6.pk.frozen 3
        simp [ptC] at e2 e3
        have t2 := hs6.cell 2
        simp at t2
        have H6 := Lib.hid (And.intro hF6 (And.intro hs6 hd6))
        clear hF6 hs6 hd6
        cases hok : Gr.okS nb ⟨sk, sf, sl, sd⟩
        · have HOK := Lib.hid hok
          clear hok
          go_wp2_with fail
          have hF7 := FdW.setE H6.out.1 2
          go_quiet (fail)
          go_wp2_with fail
          rw [Exit.noGoto_ret]
          refine leaves_cons (f := 94) (args := #[.pointer (some ⟨g, 0, none⟩), .pointer (some ⟨rb, 0, none⟩)]) (by simp) (by simp [go_sem]) ?_
          refine (keep_d g rb Ab Ah A3 nb cb hs.length ch rest.length c3 o' 2 rest .returning _ rb (hF7.pk.drewN _) (hF7.rk.drewN _) (hF7.rs.drewN _) (Nat.le_of_lt hF7.rlt) (by omega)).mono ?_
          rintro e u' w' ⟨rfl, rfl, A', c', hkp, hgk⟩
          refine ⟨_, results_tmp2 rfl _ _ _, feed_end hF7 hkp hgk ?_⟩
          rcases HN.out.1 with ⟨h, _⟩ | ⟨_, h, _⟩ | ⟨_, _, h⟩ | ⟨_, h, _⟩ | ⟨_, h, _⟩ <;> first | exact h | exact absurd h (by decide) | (rw [HOK.out] at h; exact absurd h (by decide))
        · have hsl := Gr.okS_len hok (by omega)
          simp only at hsl
          obtain ⟨hs1, hs2⟩ := hsl
          have HOK := Lib.hid hok
          clear hok
          have hwr : IntKind.i64.wrap (4096 - (o' : Int)) = 4096 - (o' : Int) := IntWalk.i64_in _ (by omega)
          by_cases hlt : 4096 - (o' : Int) < sl
          · go_wp2_with fail
            go_quiet (fail)
            go_wp2_with fail
            have hF7 := fun q => FdW.setE (H6.out.1.below (below_drewN (Below.refl _ _) q)) 13
            go_quiet (fail)
            go_wp2_with fail
            rw [Exit.noGoto_ret]
            refine leaves_cons (f := 94) (args := #[.pointer (some ⟨g, 0, none⟩), .pointer (some ⟨rb, 0, none⟩)]) (by simp) (by simp [go_sem]) ?_
            refine (keep_d g rb Ab Ah A3 nb cb hs.length ch rest.length c3 o' 13 rest .returning _ rb ((hF7 _).pk.drewN _) ((hF7 _).rk.drewN _) ((hF7 _).rs.drewN _) (Nat.le_of_lt (hF7 _).rlt) (by omega)).mono ?_
            rintro e u' w' ⟨rfl, rfl, A', c', hkp, hgk⟩
            refine ⟨_, results_tmp2 rfl _ _ _, feed_end (hF7 _) hkp hgk ?_⟩
            rcases HN.out.1 with ⟨h, _⟩ | ⟨_, h, _⟩ | ⟨_, h, _⟩ | ⟨_, _, _, h⟩ | ⟨_, _, h, _⟩ <;> first | exact h | exact absurd h (by decide) | (rw [HOK.out] at h; exact absurd h (by decide)) | exact absurd hlt (by omega)
          · go_wp2_with fail
            go_quiet (fail)
            go_wp2_with fail
            have hF7 := fun q => FdW.setE (H6.out.1.below (below_drewN (Below.refl _ _) q)) 0
            have hs7 := fun q => ((H6.out.2.1.drewN q).grown (only_setCell (World.grownBy.refl (wc.drewN q) (some g)) (p := ⟨g, 3, none⟩) (.inl rfl) (.int .i64 ((0 : Nat) : Int))) (by have := Blk.ne_ H6.out.2.1 H6.out.1.pk (by decide); simpa using this))
            have hd7 := fun q => bs_off (H6.out.2.2.drewN q) (H6.out.1.pk.drewN q) (ptC_no8 _ _ _ _ _ _ _ _) (only_setCell (World.grownBy.refl (wc.drewN q) (some g)) (p := ⟨g, 3, none⟩) (.inl rfl) (.int .i64 ((0 : Nat) : Int))) (Nat.le_refl _)
            obtain ⟨w7, hw7⟩ : ∃ w7, w7 = (wc.drewN nq).setCell ⟨g, 3, none⟩ (.int .i64 0) := ⟨_, rfl⟩
            replace hF7 : FdW w w7 g rb Ab nb cb Ah hs.length ch base o' 0 A3 c3 rest Ao co out := by rw [hw7]; exact hF7 _
            replace hs7 : Blk w7 sb 68 #[.int .i64 sk, .int .i64 sf, .int .i64 sl, .slice Ad sd.length cd] := by rw [hw7]; exact hs7 _
            replace hd7 : BS w7 w7.heap.size Ad sd.length sd := by have := hd7 nq; rw [hw7]; exact this.more (by simp)
            first
              | rw [← hw7]
              | rw [World.setCell_drewN, ← hw7]
            clear hw7 H6 e2 e3 z2 z3 t2
            have e0 := hF7.pk.cell 0
            simp [ptC] at e0
            have t0 := hs7.cell 0
            have t1 := hs7.cell 1
            have t2 := hs7.cell 2
            have t3 := hs7.cell 3
            simp at t0 t1 t2 t3
            have hol := HN.out.2.2.2
            have hdl := Gr.does_len (base := base) (n := nb) HOK.out (by have := hF7.bs.1; omega) (by omega)
            simp only at hdl
            obtain ⟨X, hX⟩ : ∃ X, X = Gr.doesP base ⟨sk, sf, sl, sd⟩ := ⟨_, rfl⟩
            have hxl : X.length = sl.toNat := by rw [hX]; exact hdl
            have hxo : (out ++ X).length = out.length + X.length := List.length_append
            have hq1 : out.length + X.length ≤ 140737488355328 := by omega
            have hdo := fun w8 h8 h8' => does_any Ab Ad nb cb cd ⟨sk, sf, sl, sd⟩ base w8 h8 h8' HOK.out hcb hnb
            rw [← hX] at hdo
            simp only at hdo
            have HD := Lib.hid (And.intro hdo (And.intro hX (And.intro hxl (And.intro hxo hol))))
            clear hdo hX hxl hxo hol hdl
            go_cut [4] from 23 to 84 (fun s4 wx => ∃ A9 c9, s4 = .slice A9 (out.length + X.length) c9 ∧ FdW w wx g rb Ab nb cb Ah hs.length ch base o' 0 A3 c3 rest A9 c9 (out ++ X) ∧ Blk wx sb 68 #[.int .i64 sk, .int .i64 sf, .int .i64 sl, .slice Ad sd.length cd])
            case first =>
              refine wp_normal ?_
              go_region_law (first
                | (go_simp
                   go_at_call 96
                   refine (HD.out.1 _ (hF7.bs.drew.more (Nat.le_of_lt hF7.pk.lt)) hd7.drew).mono ?_
                   rintro e w8 ⟨D, c8, rfl, hbs8, hb8⟩
                   have hF8 : FdW w w8 g rb Ab nb cb Ah hs.length ch base o' 0 A3 c3 rest Ao co out := hF7.below ((Below.refl _ _).drew.trans hb8)
                   have hs8 := hs7.stay ((Below.refl _ _).drew.trans hb8)
                   go_simp)
                | (refine step_app bt rfl _ _ rfl (rb + 1) Ao out.length co out rfl hF8.ot _ D X.length c8 X rfl hbs8 hq1 hF8.rlt ?_
                   intro A9 c9 w9 hown9 hg9
                   have hF9 : FdW w w9 g rb Ab nb cb Ah hs.length ch base o' 0 A3 c3 rest A9 c9 (out ++ X) := hF8.app (by rw [HD.out.2.2.2.1]; exact hown9) hg9
                   have hs9 := hs8.grown hg9 (Blk.row_ne hs8 hF8.ot (by decide))
                   clear hown9 hg9 hF8 hs8 hbs8 hb8))
              all_goals
                go_wp2_with fail
                go_meet
                exact ⟨A9, c9, rfl, hF9, hs9⟩
            case rest =>
              obtain ⟨A9, c9, rfl, hF9, hs9⟩ := hcut
              have e2 := hF9.pk.cell 2
              have z2 := hF9.pk.frozen 2
              have d0 := hF9.rk.cell 0
              have y0 := hF9.rk.frozen 0
              have u2 := hs9.cell 2
              simp [ptC] at e2 d0 u2
              have hne : rb ≠ g := by have := hF9.lt; have := hF9.l0; omega
              have hne2 : g ≠ rb := hne.symm
              have hws : IntKind.i64.wrap ((o' : Int) + sl) = (o' : Int) + sl := IntWalk.i64_in _ (by omega)
              have hsu : ((o' + sl.toNat : Nat) : Int) = (o' : Int) + sl := by omega
              obtain ⟨kp1, kp2⟩ := Gr.nextP_prog HN.out.2.1
              obtain ⟨rbk, ro, hA3, -⟩ := hF9.rs.2 (by omega)
              subst hA3
              have hF10 := FdW.setO hF9 (o' + sl.toNat)
              rw [hsu] at hF10
              have i1 : (kk : Int) ≤ (rest.length : Int) := by omega
              have i2 : (kk : Int) ≤ (c3 : Int) := by omega
              have hlx : (rest.drop kk).length = rest.length - kk := List.length_drop
              have hnext := HN.out.1
              have H10 := Lib.hid (And.intro hF10 (And.intro hsu (And.intro hlx hnext)))
              clear hF10 hsu hlx hnext e0 t0 t1 t2 t3 hs7 hF7 hd7 hs9 hF9
              go_wp2_with fail
              refine wp_normal ?_
              go_region_law (fail)
              all_goals
                by_cases hck : c3 = kk
                · have hkr : rest.length = kk := by omega
                  have hrd : rest.drop kk = [] := List.drop_of_length_le (by omega)
                  go_wp2_with fail
                  go_roundg m
                  case measure => omega
                  case rel =>
                    have hfd := HD.out.2.1
                    have hln := HD.out.2.2
                    obtain ⟨hx1, hx2, hx3⟩ := hln
                    have hf : Gr.fd nb base m (out ++ X) (o' + sl.toNat) [] = R := by
                      rw [hfd, ← hrd]
                      rcases H10.out.2.2.2 with ⟨h, _⟩ | ⟨_, h, _⟩ | ⟨_, h, _⟩ | ⟨_, _, h, _⟩ | ⟨_, _, _, h⟩ <;> first | exact h | exact absurd h (by decide) | (exfalso; omega) | (rw [HOK.out] at h; exact absurd h (by decide))
                    refine ⟨A9, c9, out ++ X, o' + sl.toNat, some ⟨rbk, ro, none⟩, 0, [], by simp; omega, by simp, by simp, by omega, by omega, by rw [hx2], hf, ?_⟩
                    have := (H10.out.1.setR (some ⟨rbk, ro, none⟩) 0 [] (BS.nil _ _ _)).below (Below.refl _ _).drew
                    simpa [hkr, hck] using this
                · go_wp2_with fail
                  go_roundg m
                  case measure => omega
                  case rel =>
                    have hfd := HD.out.2.1
                    have hln := HD.out.2.2
                    obtain ⟨hx1, hx2, hx3⟩ := hln
                    have hf : Gr.fd nb base m (out ++ X) (o' + sl.toNat) (rest.drop kk) = R := by
                      rw [hfd]
                      rcases H10.out.2.2.2 with ⟨h, _⟩ | ⟨_, h, _⟩ | ⟨_, h, _⟩ | ⟨_, _, h, _⟩ | ⟨_, _, _, h⟩ <;> first | exact h | exact absurd h (by decide) | (exfalso; omega) | (rw [HOK.out] at h; exact absurd h (by decide))
                    have hlx := H10.out.2.2.1
                    refine ⟨A9, c9, out ++ X, o' + sl.toNat, some ⟨rbk, ro + kk, none⟩, c3 - kk, rest.drop kk, by omega, by omega, by omega, by omega, by omega, by rw [hx2], hf, ?_⟩
                    have hdr := H10.out.1.rs.drop (k := kk) (by omega)
                    rw [← hlx] at hdr
                    have := (H10.out.1.setR (some ⟨rbk, ro + kk, none⟩) (c3 - kk) (rest.drop kk) hdr).below (Below.refl _ _).drew
                    rw [hlx] at this
                    exact this
theorem feed_ok (g : Nat) (Ab : Option Addr) (nb cb : Nat) (base hs : List UInt8) (o : Nat) (A : Option Addr) (n c : Nat) (b : List UInt8) (w : World)
    (hp : PtS w g Ab nb cb base hs o 0) (hcb : nb ≤ cb) (hnb : nb ≤ 4096) (ho : o ≤ 4096) (hb : BS w w.heap.size A n b) (hn : n ≤ 1000000) (hhs : hs.length ≤ 1000000) :
    Calls Tryd.prog 60 #[.pointer (some ⟨g, 0, none⟩), .slice A n c] w (FeedRet w g Ab nb cb base (Gr.feedP nb base hs o 0 b)) :=
  (feed_okN g Ab nb cb base hs o A n c b w hp hcb hnb ho hb hn hhs).mono fun _ _ h => h.old
end Go.Proofs.YtmnanbcinfdbaaaDoor
end
