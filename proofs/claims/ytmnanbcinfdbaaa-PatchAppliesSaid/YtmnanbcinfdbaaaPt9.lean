/- The walk of the reference's Feed; conditions: none beyond its hypotheses. -/
import Derived.Test.YtmnanbcinfdbaaaPt8
namespace Go.Proofs.Ytmnanbcinfdbaaa
open Go.RowKit Go.Proofs.U
set_option linter.unusedVariables false

set_option maxRecDepth 100000 in
set_option maxHeartbeats 4000000 in
theorem rfeed_bad (Ab Ah A : Option Addr) (nb cb ch n c : Nat) (hs : List UInt8) (o f : Nat) (hf : f ≠ 0) (w : World) (hh : BS w w.heap.size Ah hs.length hs) (hch : hs.length ≤ ch) (base b : List UInt8) :
    Calls Try.prog 23 #[.agg #[.slice Ab nb cb, .slice Ah hs.length ch, .int .i64 (o : Int), .int .i64 (f : Int)], .slice A n c] w (RFeedRet w Ab nb cb (Gr.feedP nb base hs o f b)) := by
  have hR : Gr.feedP nb base hs o f b = ([], o, hs, f) := by unfold Gr.feedP; rw [if_pos hf]
  rw [hR]
  obtain ⟨hz, _⟩ := Go.zero_of_info zeroQ
  have e1 : ((f : Int) != 0) = true := by rw [bne_iff_ne]; omega
  have HR := Lib.hid (And.intro hR (And.intro hh hch))
  clear hR hh hch
  go_enter Try.func23, Try.ntmps23
  go_wp2_with fail
  obtain ⟨ZP, hZP⟩ : ∃ ZP, ZP = Obj.cells #[.slice Ab nb cb, .slice Ah hs.length ch, .int .i64 (o : Int), .int .i64 (f : Int)] 49 := ⟨_, rfl⟩
  obtain ⟨ZR, hZR⟩ : ∃ ZR, ZR = Obj.cells #[.slice none 0 0, .slice none 0 0, .int .i64 0, .int .i64 0] 49 := ⟨_, rfl⟩
  have hk0 : Blk ((w.alloc ZP).alloc ZR) w.heap.size 49 #[.slice Ab nb cb, .slice Ah hs.length ch, .int .i64 (o : Int), .int .i64 (f : Int)] := by rw [hZP]; exact (Blk.new _ _ _).alloc _
  have hk1 : Blk ((w.alloc ZP).alloc ZR) (w.heap.size + 1) 49 #[.slice none 0 0, .slice none 0 0, .int .i64 0, .int .i64 0] := by
    rw [hZR]
    have := Blk.new (w.alloc ZP) 49 #[.slice none 0 0, .slice none 0 0, .int .i64 0, .int .i64 0]
    rw [World.size_alloc] at this
    exact this
  have hbw : Below w.heap.size w ((w.alloc ZP).alloc ZR) := ((Below.refl _ _).alloc (Nat.le_refl _) _).alloc (by simp) _
  rw [← hZP, ← hZR]
  generalize ((w.alloc ZP).alloc ZR) = w2 at hk0 hk1 hbw ⊢
  clear hZP hZR ZP ZR
  obtain ⟨r, hr⟩ : ∃ r, r = w.heap.size + 1 := ⟨_, rfl⟩
  have hrl : w.heap.size ≤ r := by omega
  have hne : w.heap.size ≠ r := by omega
  have hne2 : r ≠ w.heap.size := by omega
  rw [← hr] at hk1 ⊢
  clear hr
  have q0 := hk0.cell 0
  have q1 := hk0.cell 1
  have q2 := hk0.cell 2
  have q3 := hk0.cell 3
  have s0 := hk1.cell 0
  have s1 := hk1.cell 1
  have s2 := hk1.cell 2
  have s3 := hk1.cell 3
  have z0 := hk1.frozen 0
  have z1 := hk1.frozen 1
  have z2 := hk1.frozen 2
  have z3 := hk1.frozen 3
  simp at q0 q1 q2 q3 s0 s1 s2 s3
  clear hk0 hk1
  have HW := Lib.hid hbw
  clear hbw
  go_region_law (fail)
  all_goals
    go_wp2_with fail
    refine bodyPost_ret (v := .tuple #[.agg #[.slice Ab nb cb, .slice Ah hs.length ch, .int .i64 (o : Int), .int .i64 (f : Int)], .slice none 0 0, .int .i64 (f : Int)]) (by simp [results, Try.results23, go_sem, s0, s1, s2, s3]) rfl ?_
    have hbx : Below w.heap.size w ((((w2.setCell ⟨r, 0, none⟩ (.slice Ab nb cb)).setCell ⟨r, 1, none⟩ (.slice Ah hs.length ch)).setCell ⟨r, 2, none⟩ (.int .i64 (o : Int))).setCell ⟨r, 3, none⟩ (.int .i64 (f : Int))).drew := ((((HW.out.setCell (p := ⟨r, 0, none⟩) hrl _).setCell (p := ⟨r, 1, none⟩) hrl _).setCell (p := ⟨r, 2, none⟩) hrl _).setCell (p := ⟨r, 3, none⟩) hrl _).drew
    exact ⟨none, 0, Ah, ch, rfl, BS.nil _ _ _, (HR.out.2.1.below hbx).more hbx.size, HR.out.2.2, hbx⟩

theorem rfeed_end {w w5 : World} {qb B1 nb cb hl ch c3 co o0 o f : Nat} {Ab Ah A3 Ao : Option Addr} {base rest out : List UInt8} {R : List UInt8 × Nat × List UInt8 × Nat} (hF : RdW w w5 qb B1 Ab nb cb Ah hl ch base o0 o f A3 c3 rest Ao co out) (v0 v1 v2 v3 : Value)
    (hR : R = (out, o, rest, f)) (hc : rest.length ≤ c3) :
    RFeedRet w Ab nb cb R (.returned (.tuple #[.agg #[.slice Ab nb cb, .slice A3 rest.length c3, .int .i64 (o : Int), .int .i64 (f : Int)], .slice Ao out.length co, .int .i64 (f : Int)])) ((((w5.setCell ⟨w.heap.size + 1, 0, none⟩ v0).setCell ⟨w.heap.size + 1, 1, none⟩ v1).setCell ⟨w.heap.size + 1, 2, none⟩ v2).setCell ⟨w.heap.size + 1, 3, none⟩ v3) := by
  subst hR
  have hlq := hF.lq
  have hlr := hF.lr
  have hwb := hF.be
  have g1 : w5.grownBy (w5.setCell ⟨w.heap.size + 1, 0, none⟩ v0) (some (w.heap.size + 1)) := only_setCell (World.grownBy.refl _ _) (.inl rfl) _
  have g2 := only_setCell (p := ⟨w.heap.size + 1, 1, none⟩) g1 (.inl rfl) v1
  have g3 := only_setCell (p := ⟨w.heap.size + 1, 2, none⟩) g2 (.inl rfl) v2
  have hg := only_setCell (p := ⟨w.heap.size + 1, 3, none⟩) g3 (.inl rfl) v3
  have b1 := hwb.setCell (p := ⟨w.heap.size + 1, 0, none⟩) (Nat.le_succ _) v0
  have b2 := b1.setCell (p := ⟨w.heap.size + 1, 1, none⟩) (Nat.le_succ _) v1
  have b3 := b2.setCell (p := ⟨w.heap.size + 1, 2, none⟩) (Nat.le_succ _) v2
  have hb := b3.setCell (p := ⟨w.heap.size + 1, 3, none⟩) (Nat.le_succ _) v3
  refine ⟨Ao, co, A3, c3, rfl, (own_kept hF.ot hg (by omega)).bs, (bs_off hF.rs hF.rk (fun i x => ?_) hg hF.lb).more (Nat.le_trans hF.lb hg.size), hc, hb⟩
  match i with
  | 0 => simp
  | 1 => simp
  | 2 => simp
  | 3 => simp
  | i + 4 => simp
set_option maxRecDepth 100000 in
set_option maxHeartbeats 4000000 in
theorem rfeed_ok (Ab Ah A : Option Addr) (nb cb ch n c : Nat) (base hs b : List UInt8) (o : Nat) (w : World) (hbase : BS w w.heap.size Ab nb base) (hcb : nb ≤ cb) (hnb : nb ≤ 4096) (ho : o ≤ 4096) (hh : BS w w.heap.size Ah hs.length hs) (hhs : hs.length ≤ 1000000) (hb : BS w w.heap.size A n b) (hn : n ≤ 1000000) :
    Calls Try.prog 23 #[.agg #[.slice Ab nb cb, .slice Ah hs.length ch, .int .i64 (o : Int), .int .i64 0], .slice A n c] w (RFeedRet w Ab nb cb (Gr.feedP nb base hs o 0 b)) := by
  obtain ⟨R, hR⟩ : ∃ R, R = Gr.feedP nb base hs o 0 b := ⟨_, rfl⟩
  rw [← hR]
  obtain ⟨hzQ, _⟩ := Go.zero_of_info zeroQ
  obtain ⟨hzS, _⟩ := Go.zero_of_info zeroS
  have hbl := hb.1
  have HB := Lib.hid (And.intro hR (And.intro hbl (And.intro hb (And.intro hbase hh))))
  clear hR hbl hb hbase hh
  have hk0 : Blk ((((w.alloc (Obj.cells #[.slice Ab nb cb, .slice Ah hs.length ch, .int .i64 (o : Int), .int .i64 0] 49)).alloc (Obj.cells #[.slice none 0 0, .slice none 0 0, .int .i64 0, .int .i64 0] 49)).alloc (Obj.cells #[.slice Ab nb cb, .slice Ah hs.length ch, .int .i64 (o : Int), .int .i64 0] 49)).alloc (Obj.cells #[] 5)) w.heap.size 49 (ptC Ab nb cb Ah hs.length ch o 0) := (((Blk.new _ _ _).alloc _).alloc _).alloc _
  have hk1 : Blk ((((w.alloc (Obj.cells #[.slice Ab nb cb, .slice Ah hs.length ch, .int .i64 (o : Int), .int .i64 0] 49)).alloc (Obj.cells #[.slice none 0 0, .slice none 0 0, .int .i64 0, .int .i64 0] 49)).alloc (Obj.cells #[.slice Ab nb cb, .slice Ah hs.length ch, .int .i64 (o : Int), .int .i64 0] 49)).alloc (Obj.cells #[] 5)) (w.heap.size + 1) 49 #[.slice none 0 0, .slice none 0 0, .int .i64 0, .int .i64 0] := by
    have := ((Blk.new (w.alloc (Obj.cells #[.slice Ab nb cb, .slice Ah hs.length ch, .int .i64 (o : Int), .int .i64 0] 49)) 49 #[.slice none 0 0, .slice none 0 0, .int .i64 0, .int .i64 0]).alloc (Obj.cells #[.slice Ab nb cb, .slice Ah hs.length ch, .int .i64 (o : Int), .int .i64 0] 49)).alloc (Obj.cells #[] 5)
    rw [World.size_alloc] at this
    exact this
  have hk2 : Blk ((((w.alloc (Obj.cells #[.slice Ab nb cb, .slice Ah hs.length ch, .int .i64 (o : Int), .int .i64 0] 49)).alloc (Obj.cells #[.slice none 0 0, .slice none 0 0, .int .i64 0, .int .i64 0] 49)).alloc (Obj.cells #[.slice Ab nb cb, .slice Ah hs.length ch, .int .i64 (o : Int), .int .i64 0] 49)).alloc (Obj.cells #[] 5)) (w.heap.size + 1 + 1) 49 (ptC Ab nb cb Ah hs.length ch o 0) := by
    have := (Blk.new ((w.alloc (Obj.cells #[.slice Ab nb cb, .slice Ah hs.length ch, .int .i64 (o : Int), .int .i64 0] 49)).alloc (Obj.cells #[.slice none 0 0, .slice none 0 0, .int .i64 0, .int .i64 0] 49)) 49 (ptC Ab nb cb Ah hs.length ch o 0)).alloc (Obj.cells #[] 5)
    rw [World.size_alloc, World.size_alloc] at this
    exact this
  have hb4 : Below w.heap.size w ((((w.alloc (Obj.cells #[.slice Ab nb cb, .slice Ah hs.length ch, .int .i64 (o : Int), .int .i64 0] 49)).alloc (Obj.cells #[.slice none 0 0, .slice none 0 0, .int .i64 0, .int .i64 0] 49)).alloc (Obj.cells #[.slice Ab nb cb, .slice Ah hs.length ch, .int .i64 (o : Int), .int .i64 0] 49)).alloc (Obj.cells #[] 5)) := ((((Below.refl _ _).alloc (Nat.le_refl _) _).alloc (by simp) _).alloc (by simp; omega) _).alloc (by simp; omega) _
  have ho4 : Own ((((w.alloc (Obj.cells #[.slice Ab nb cb, .slice Ah hs.length ch, .int .i64 (o : Int), .int .i64 0] 49)).alloc (Obj.cells #[.slice none 0 0, .slice none 0 0, .int .i64 0, .int .i64 0] 49)).alloc (Obj.cells #[.slice Ab nb cb, .slice Ah hs.length ch, .int .i64 (o : Int), .int .i64 0] 49)).alloc (Obj.cells #[] 5)) (w.heap.size + 1 + 1 + 1) 5 (some ⟨w.heap.size + 1 + 1 + 1, 0, none⟩) 0 0 [] := by
    have := Own.made (((w.alloc (Obj.cells #[.slice Ab nb cb, .slice Ah hs.length ch, .int .i64 (o : Int), .int .i64 0] 49)).alloc (Obj.cells #[.slice none 0 0, .slice none 0 0, .int .i64 0, .int .i64 0] 49)).alloc (Obj.cells #[.slice Ab nb cb, .slice Ah hs.length ch, .int .i64 (o : Int), .int .i64 0] 49)) 5 (w.heap.size + 1 + 1 + 1) (by simp)
    rw [World.size_alloc, World.size_alloc, World.size_alloc] at this
    exact this
  have hz4 : ((((w.alloc (Obj.cells #[.slice Ab nb cb, .slice Ah hs.length ch, .int .i64 (o : Int), .int .i64 0] 49)).alloc (Obj.cells #[.slice none 0 0, .slice none 0 0, .int .i64 0, .int .i64 0] 49)).alloc (Obj.cells #[.slice Ab nb cb, .slice Ah hs.length ch, .int .i64 (o : Int), .int .i64 0] 49)).alloc (Obj.cells #[] 5)).heap.size = w.heap.size + 4 := by simp
  have hd4 := hk2.cell 0
  have H4 := Lib.hid (And.intro hk0 (And.intro hk1 (And.intro hk2 (And.intro hb4 (And.intro ho4 hz4)))))
  clear hk0 hk1 hk2 hb4 ho4 hz4 hd4
  go_enter Try.func23, Try.ntmps23
  go_wp2_with (first
    | (at_builtin; refine wpList_app bt rfl (.tmp 19) (.tmp 21) rfl (w.heap.size + 1 + 1 + 1) _ _ _ [] rfl H4.out.2.2.2.2.1 w.heap.size _ _ _ hs rfl (HB.out.2.2.2.2.below H4.out.2.2.2.1) (by omega) (by rw [H4.out.2.2.2.2.2]; omega) ?_
       intro A5 c5 w5 hown5 hg5 hat5
       rw [Nat.zero_add, List.nil_append] at hown5
       have h5k0 := H4.out.1.grown hg5 (by intro e; have := (World.ownsRow.lt H4.out.2.2.2.2.1 _ e.symm).1; omega)
       have h5k1 := H4.out.2.1.grown hg5 (by intro e; have := (World.ownsRow.lt H4.out.2.2.2.2.1 _ e.symm).1; omega)
       have h5k2 := H4.out.2.2.1.grown hg5 (by intro e; have := (World.ownsRow.lt H4.out.2.2.2.2.1 _ e.symm).1; omega)
       have hbw5 : Below w.heap.size w w5 := below_of_grown H4.out.2.2.2.1 H4.out.2.2.2.1.size H4.out.2.2.2.2.1 (by omega) hg5
       have hz5 : w.heap.size + 1 + 1 + 1 ≤ w5.heap.size := by have := hg5.size; have := H4.out.2.2.2.2.2; omega
       have H5 := Lib.hid (And.intro h5k0 (And.intro h5k1 (And.intro h5k2 (And.intro hbw5 (And.intro hz5 hown5)))))
       clear h5k0 h5k1 h5k2 hbw5 hz5 hown5 hg5 hat5)
    | (at_builtin; refine wpList_app bt rfl (.tmp 22) (.tmp 23) rfl (w.heap.size + 1 + 1 + 1) _ _ _ hs (by simp [go_sem]) H5.out.2.2.2.2.2 w.heap.size _ _ _ b rfl (HB.out.2.2.1.below H5.out.2.2.2.1) (by omega) H5.out.2.2.2.2.1 ?_
       intro A6 c6 w6 hown6 hg6 hat6
       have h6k0 := H5.out.1.grown hg6 (by intro e; have := (World.ownsRow.lt H5.out.2.2.2.2.2 _ e.symm).1; omega)
       have h6k1 := H5.out.2.1.grown hg6 (by intro e; have := (World.ownsRow.lt H5.out.2.2.2.2.2 _ e.symm).1; omega)
       have h6k2 := H5.out.2.2.1.grown hg6 (by intro e; have := (World.ownsRow.lt H5.out.2.2.2.2.2 _ e.symm).1; omega)
       have hbw6 : Below w.heap.size w w6 := below_of_grown H5.out.2.2.2.1 H5.out.2.2.2.1.size H5.out.2.2.2.2.2 (by omega) hg6
       have hz6 : w.heap.size + 1 + 1 + 1 ≤ w6.heap.size := by have := hg6.size; have := H5.out.2.2.2.2.1; omega
       have k60 := h6k2.cell 1
       have z60 := h6k2.frozen 1
       simp [ptC] at k60
       have H6 := Lib.hid (And.intro h6k0 (And.intro h6k1 (And.intro h6k2 (And.intro hbw6 (And.intro hz6 hown6)))))
       clear h6k0 h6k1 h6k2 hbw6 hz6 hown6 hg6 hat6))
  obtain ⟨cc, hcc⟩ : ∃ cc, cc = (hs ++ b) := ⟨_, rfl⟩
  have hcl : cc.length = hs.length + n := by rw [hcc, List.length_append, HB.out.2.1]
  have hown6 := H6.out.2.2.2.2.2
  rw [← hcc, ← hcl] at hown6
  rw [← hcl]
  have hbw6 := H6.out.2.2.2.1
  have hF6 : RdW w w6 (w.heap.size + 1 + 1) w6.heap.size Ab nb cb Ah hs.length ch base o o 0 Ah ch hs none 0 [] := ⟨H6.out.1, H6.out.2.1, H6.out.2.2.1, (HB.out.2.2.2.2.below hbw6).more hbw6.size, Own.nil _ _ _, HB.out.2.2.2.1.below hbw6, hbw6, by have := H6.out.2.2.2.2.1; omega, by omega, Nat.le_refl _⟩
  have hF7 := hF6.setQ (i := 1) (v := .slice A6 cc.length c6) (A4 := A6) (c4 := c6) (o' := o) (f' := 0) (rest' := cc) (by simp [ptC]) hown6.bs
  have hfd : Gr.fd nb base (cc.length + 1) [] o cc = R := by rw [HB.out.1, hcc]; unfold Gr.feedP; simp
  have hccl : cc.length ≤ 2000000 := by omega
  have hcle := hown6.le
  generalize (w6.setCell ⟨w.heap.size + 1 + 1, 1, none⟩ (.slice A6 cc.length c6)) = w7 at hF7 ⊢
  obtain ⟨qb, hqb⟩ : ∃ qb, qb = w.heap.size + 1 + 1 := ⟨_, rfl⟩
  rw [← hqb] at hF7 ⊢
  obtain ⟨B1, hB1⟩ : ∃ B1, B1 = w6.heap.size := ⟨_, rfl⟩
  rw [← hB1] at hF7
  have HF := Lib.hid (And.intro hF7 (And.intro hfd hcc))
  clear hF7 hfd hcc hF6 hown6 H4 H5 H6 hbw6 hqb hB1 hcl
  clear k60 z60
  go_wp2_with fail
  go_loopg [8] (cc.length + 1) (fun r s8 wr => ∃ Ao co out o' A3 c3 rest, rest.length < r ∧ rest.length ≤ 2000000 ∧ rest.length ≤ c3 ∧ out.length + o = o' ∧ o' ≤ 4096 ∧ s8 = .slice Ao out.length co ∧ Gr.fd nb base r out o' rest = R ∧ RdW w wr qb B1 Ab nb cb Ah hs.length ch base o o' 0 A3 c3 rest Ao co out)
  case atStart => exact ⟨none, 0, [], o, A6, c6, cc, by omega, hccl, hcle, by simp, ho, rfl, HF.out.2.1, HF.out.1⟩
  case round =>
    clear hccl hcle HF HB hhs hn
    obtain ⟨Ao, co, out, o', A3, c3, rest, hr1, hr2, hr3, ho2, ho3, rfl, hfd, hF⟩ := hrel
    obtain ⟨m, rfl⟩ : ∃ m, gk = m + 1 := ⟨gk - 1, by omega⟩
    obtain ⟨⟨s, kk, e1⟩, hnx⟩ : ∃ r, Gr.nextP rest = r := ⟨_, rfl⟩
    have hcs := Gr.fd_any hnx R hfd
    have HN := Lib.hid (And.intro hcs (And.intro hnx (And.intro hF ho2)))
    have hnxt := rnext_any A3 rest.length c3 wr.heap.size rest wr (hF.rs.more hF.lb) (Nat.le_refl _) hr3 (by omega)
    rw [hnx] at hnxt
    have d0 := hF.qk.cell 1
    simp [ptC] at d0
    have HNX := Lib.hid hnxt
    clear hcs hfd hF hnx hnxt ho2
    go_wp2_with fail
    refine HNX.out.mono ?_
    rintro e w4 ⟨Ad, cd, rfl, hdat, hcd, hb4⟩
    simp only at hdat hcd ⊢
    have hF4 := HN.out.2.2.1.below hb4
    obtain ⟨sk, sf, sl, sd⟩ := s
    simp only at hdat hcd ⊢
    clear d0 HNX
    have hd4 := hdat.1
    have hal4 : ∀ o, Below w4.heap.size w4 (w4.alloc o) := fun o => (Below.refl _ _).alloc (Nat.le_refl _) o
    have hk4 : ∀ cs T, Blk (w4.alloc (.cells cs T)) w4.heap.size T cs := fun cs T => Blk.new w4 T cs
    have hF5 := hF4.below (hal4 (Obj.cells #[.int .i64 sk, .int .i64 sf, .int .i64 sl, .slice Ad sd.length cd] 25))
    have hs5 := hk4 #[.int .i64 sk, .int .i64 sf, .int .i64 sl, .slice Ad sd.length cd] 25
    have hd5 := (hd4.below (hal4 (Obj.cells #[.int .i64 sk, .int .i64 sf, .int .i64 sl, .slice Ad sd.length cd] 25))).more (hal4 (Obj.cells #[.int .i64 sk, .int .i64 sf, .int .i64 sl, .slice Ad sd.length cd] 25)).size
    clear hF4 hd4 hdat hb4 hal4 hk4
    rcases (show e1 = 11 ∨ (e1 ≠ 11 ∧ e1 ≠ 0) ∨ e1 = 0 by omega) with rfl | ⟨h11, h00⟩ | rfl
    · have q0 := hF5.qk.cell 0
      have q1 := hF5.qk.cell 1
      have q2 := hF5.qk.cell 2
      have q3 := hF5.qk.cell 3
      have y1 := hF5.qk.frozen 1
      have y3 := hF5.qk.frozen 3
      have s0 := hF5.rk.cell 0
      have s1 := hF5.rk.cell 1
      have s2 := hF5.rk.cell 2
      have s3 := hF5.rk.cell 3
      have z0 := hF5.rk.frozen 0
      have z1 := hF5.rk.frozen 1
      have z2 := hF5.rk.frozen 2
      have z3 := hF5.rk.frozen 3
      simp [ptC] at q0 q1 q2 q3 s0 s1 s2 s3
      have hqr : qb ≠ w.heap.size + 1 := by have := hF5.lr; omega
      have hqr2 : w.heap.size + 1 ≠ qb := hqr.symm
      have H5 := Lib.hid (And.intro hF5 (And.intro hs5 hd5))
      clear hF5 hs5 hd5
      go_wp2_with fail
      refine bodyPost_ret (v := .tuple #[.agg #[.slice Ab nb cb, .slice A3 rest.length c3, .int .i64 (o' : Int), .int .i64 ((0 : Nat) : Int)], .slice Ao out.length co, .int .i64 ((0 : Nat) : Int)]) (by simp [results, Try.results23, go_sem, s0, s1, s2, s3]) rfl ?_
      exact rfeed_end H5.out.1 _ _ _ _ (by rcases HN.out.1 with ⟨_, h⟩ | ⟨h, _⟩ | ⟨h, _⟩ | ⟨h, _⟩ | ⟨h, _⟩ <;> first | exact h | exact absurd h (by decide)) hr3
    · have b1 : ((e1 : Int) == 11) = false := by rw [beq_eq_false_iff_ne]; omega
      have b2 : ((e1 : Int) == 0) = false := by rw [beq_eq_false_iff_ne]; omega
      have b3 : ((e1 : Int) != 0) = true := by rw [bne_iff_ne]; omega
      have q0 := hF5.qk.cell 0
      have q1 := hF5.qk.cell 1
      have q2 := hF5.qk.cell 2
      have q3 := hF5.qk.cell 3
      have y1 := hF5.qk.frozen 1
      have y3 := hF5.qk.frozen 3
      have s0 := hF5.rk.cell 0
      have s1 := hF5.rk.cell 1
      have s2 := hF5.rk.cell 2
      have s3 := hF5.rk.cell 3
      have z0 := hF5.rk.frozen 0
      have z1 := hF5.rk.frozen 1
      have z2 := hF5.rk.frozen 2
      have z3 := hF5.rk.frozen 3
      simp [ptC] at q0 q1 q2 q3 s0 s1 s2 s3
      have hqr : qb ≠ w.heap.size + 1 := by have := hF5.lr; omega
      have hqr2 : w.heap.size + 1 ≠ qb := hqr.symm
      have H5 := Lib.hid (And.intro hF5 (And.intro hs5 hd5))
      clear hF5 hs5 hd5
      go_wp2_with fail
      have hF9 := (H5.out.1.setQ (i := 3) (v := .int .i64 ((e1 : Nat) : Int)) (A4 := A3) (c4 := c3) (o' := o') (f' := e1) (rest' := rest) (by simp [ptC]) H5.out.1.rs).setQ (i := 1) (v := .slice none 0 0) (A4 := none) (c4 := 0) (o' := o') (f' := e1) (rest' := []) (by simp [ptC]) (BS.nil _ _ _)
      refine bodyPost_ret (v := .tuple #[.agg #[.slice Ab nb cb, .slice none 0 0, .int .i64 (o' : Int), .int .i64 ((e1 : Nat) : Int)], .slice Ao out.length co, .int .i64 ((e1 : Nat) : Int)]) (by simp [results, Try.results23, go_sem, s0, s1, s2, s3]) rfl ?_
      refine rfeed_end hF9 _ _ _ _ ?_ (Nat.le_refl _)
      rcases HN.out.1 with ⟨h, _⟩ | ⟨_, _, h⟩ | ⟨h, _⟩ | ⟨h, _⟩ | ⟨h, _⟩ <;> first | exact h | (exfalso; omega)
    · have b1 : ((0 : Int) == 11) = false := by decide
      obtain ⟨hr4, ⟨hr5, hr6⟩, ⟨hr7, hr8⟩, hr9⟩ := Gr.nextP_rng HN.out.2.1
      simp only at hr4 hr5 hr6 hr7 hr8 hr9
      have p0 := hF5.pk.cell 0
      simp [ptC] at p0
      have H5 := Lib.hid (And.intro hF5 (And.intro hs5 hd5))
      clear hF5 hs5 hd5
      go_wp2_with fail
      refine (rright_any sk sf sl Ad sd.length cd nb _ ⟨by omega, by omega⟩ ⟨by omega, by omega⟩ (by omega) ⟨by omega, by omega⟩).mono ?_
      rintro e w6 ⟨rfl, hb6⟩
      have hF6 := H5.out.1.below hb6
      have hs6 := H5.out.2.1.stay hb6
      have hd6 := (H5.out.2.2.below hb6).more hb6.size
      generalize w4.heap.size = sb at hs6 ⊢
      clear p0 hb6 H5
      have q0 := hF6.qk.cell 0
      have q1 := hF6.qk.cell 1
      have q2 := hF6.qk.cell 2
      have q3 := hF6.qk.cell 3
      have y1 := hF6.qk.frozen 1
      have y2 := hF6.qk.frozen 2
      have y3 := hF6.qk.frozen 3
      have p0 := hF6.pk.cell 0
      have s0 := hF6.rk.cell 0
      have s1 := hF6.rk.cell 1
      have s2 := hF6.rk.cell 2
      have s3 := hF6.rk.cell 3
      have z0 := hF6.rk.frozen 0
      have z1 := hF6.rk.frozen 1
      have z2 := hF6.rk.frozen 2
      have z3 := hF6.rk.frozen 3
      have t0 := hs6.cell 0
      have t1 := hs6.cell 1
      have t2 := hs6.cell 2
      have t3 := hs6.cell 3
      simp [ptC] at q0 q1 q2 q3 p0 s0 s1 s2 s3 t0 t1 t2 t3
      have hqr : qb ≠ w.heap.size + 1 := by have := hF6.lr; omega
      have hqr2 : w.heap.size + 1 ≠ qb := hqr.symm

      have H6 := Lib.hid (And.intro hF6 (And.intro hs6 hd6))
      clear hF6 hs6 hd6
      cases hok : Gr.okR sk sf sl sd.length nb
      · have HOK := Lib.hid (show Gr.okS nb ⟨sk, sf, sl, sd⟩ = false from hok)
        clear hok
        go_wp2_with fail
        have hF9 := (H6.out.1.setQ (i := 3) (v := .int .i64 ((2 : Nat) : Int)) (A4 := A3) (c4 := c3) (o' := o') (f' := 2) (rest' := rest) (by simp [ptC]) H6.out.1.rs).setQ (i := 1) (v := .slice none 0 0) (A4 := none) (c4 := 0) (o' := o') (f' := 2) (rest' := []) (by simp [ptC]) (BS.nil _ _ _)
        refine bodyPost_ret (v := .tuple #[.agg #[.slice Ab nb cb, .slice none 0 0, .int .i64 (o' : Int), .int .i64 ((2 : Nat) : Int)], .slice Ao out.length co, .int .i64 ((2 : Nat) : Int)]) (by simp [results, Try.results23, go_sem, s0, s1, s2, s3]) rfl ?_
        refine rfeed_end hF9 _ _ _ _ ?_ (Nat.le_refl _)
        rcases HN.out.1 with ⟨h, _⟩ | ⟨_, h, _⟩ | ⟨_, _, h⟩ | ⟨_, h, _⟩ | ⟨_, h, _⟩ <;> first | exact h | exact absurd h (by decide) | (rw [HOK.out] at h; exact absurd h (by decide))
      · have HOK := Lib.hid (show Gr.okS nb ⟨sk, sf, sl, sd⟩ = true from hok)
        clear hok
        by_cases hlt : 4096 - (o' : Int) < sl
        · have hgt : (4096 : Int) < (o' : Int) + sl := by omega
          go_wp2_with fail
          have hF9 := (H6.out.1.setQ (i := 3) (v := .int .i64 ((13 : Nat) : Int)) (A4 := A3) (c4 := c3) (o' := o') (f' := 13) (rest' := rest) (by simp [ptC]) H6.out.1.rs).setQ (i := 1) (v := .slice none 0 0) (A4 := none) (c4 := 0) (o' := o') (f' := 13) (rest' := []) (by simp [ptC]) (BS.nil _ _ _)
          refine bodyPost_ret (v := .tuple #[.agg #[.slice Ab nb cb, .slice none 0 0, .int .i64 (o' : Int), .int .i64 ((13 : Nat) : Int)], .slice Ao out.length co, .int .i64 ((13 : Nat) : Int)]) (by simp [results, Try.results23, go_sem, s0, s1, s2, s3]) rfl ?_
          refine rfeed_end hF9 _ _ _ _ ?_ (Nat.le_refl _)
          rcases HN.out.1 with ⟨h, _⟩ | ⟨_, h, _⟩ | ⟨_, h, _⟩ | ⟨_, _, _, h⟩ | ⟨_, _, h, _⟩ <;> first | exact h | exact absurd h (by decide) | (rw [HOK.out] at h; exact absurd h (by decide)) | exact absurd hlt (by omega)
        · have hgt : ¬ (4096 : Int) < (o' : Int) + sl := by omega
          have hws : IntKind.i64.wrap ((o' : Int) + sl) = (o' : Int) + sl := IntWalk.i64_in _ (by omega)
          obtain ⟨kp1, kp2⟩ := Gr.nextP_prog HN.out.2.1
          obtain ⟨rbk, ro, hA3, -⟩ := H6.out.1.rs.2 (by omega)
          subst hA3
          have i1 : (kk : Int) ≤ (rest.length : Int) := by omega
          have i2 : (kk : Int) ≤ (c3 : Int) := by omega
          have hsl := Gr.okS_len HOK.out (by omega)
          simp only at hsl
          obtain ⟨hs1, hs2⟩ := hsl
          have hsu : ((o' + sl.toNat : Nat) : Int) = (o' : Int) + sl := by omega
          have hdl := Gr.does_len (base := base) (n := nb) HOK.out (by have := H6.out.1.bs.1; omega) (by omega)
          simp only at hdl
          obtain ⟨X, hX⟩ : ∃ X, X = Gr.doesP base ⟨sk, sf, sl, sd⟩ := ⟨_, rfl⟩
          have hxl : X.length = sl.toNat := by rw [hX]; exact hdl
          have hxo : (out ++ X).length = out.length + X.length := List.length_append
          have hol := HN.out.2.2.2
          have hq1 : out.length + X.length ≤ 140737488355328 := by omega
          rcases Gr.okS_inv HOK.out (by omega) with ⟨f, l, hss, hf, hl1, hl4⟩ | ⟨d, hss, hd1, hd2⟩
          · obtain ⟨rfl, rfl, rfl, rfl⟩ := Gr.Stp.mk.inj hss
            have hfl : f + l ≤ nb := by
              have h := HOK.out
              unfold Gr.okS Gr.okR at h
              simp at h
              omega
            have hF6 := H6.out.1
            obtain ⟨bb, bo, hAb, _, _⟩ := hF6.bs.2 (by omega)
            subst hAb
            have HH := hfl
            have hbx : BS w6 w.heap.size (some ⟨bb, bo + f, none⟩) X.length X := by
              rw [hxl, hX]
              have := (hF6.bs.drop (k := f) (by omega)).take (k := l) (by omega)
              simpa [Gr.doesP] using this
            have HBX := Lib.hid hbx
            clear hbx hF6
            have j1 : (f : Int) + (l : Int) ≤ (nb : Int) := by omega
            have j2 : (f : Int) + (l : Int) ≤ (cb : Int) := by omega
            have j3 : ¬ cb = f := by omega
            have hlx0 : l = X.length := by rw [hxl]; simp
            have HLX := Lib.hid hlx0
            clear hlx0
            have HX := Lib.hid (And.intro hX (And.intro hxl (And.intro hxo hol)))
            clear hX hxl hxo hol hdl q0 q3 s0 s1 s2 s3 z0 z1 z2 z3 y3 HH
            by_cases hck : c3 = kk
            · have hkr : rest.length = kk := by omega
              have hrd : rest.drop kk = [] := List.drop_of_length_le (by omega)
              have HRD := Lib.hid hrd
              clear hrd
              go_wp2_with (first
                | (at_builtin; refine wpList_app bt rfl (.tmp 68) (.tmp 78) rfl B1 Ao out.length co out rfl H6.out.1.ot w.heap.size (some ⟨bb, bo + f, none⟩) l (cb - f) X (by simp [go_sem]) (by rw [HLX.out]; exact HBX.out) (by rw [HLX.out]; exact hq1) H6.out.1.lb ?_
                   intro A9 c9 w9 hown9 hg9 hat9
                   have hF9 : RdW w w9 qb B1 (some ⟨bb, bo, none⟩) nb cb Ah hs.length ch base o o' 0 (some ⟨rbk, ro, none⟩) c3 rest A9 c9 (out ++ X) := H6.out.1.app (by rw [HX.out.2.2.1, ← HLX.out]; exact hown9) hg9
                   have hs9 := H6.out.2.1.grown hg9 (Blk.row_ne H6.out.2.1 H6.out.1.ot (by decide))
                   have q1 := hF9.qk.cell 1
                   have q2 := hF9.qk.cell 2
                   have y1 := hF9.qk.frozen 1
                   have y2 := hF9.qk.frozen 2
                   have t2 := hs9.cell 2
                   simp [ptC] at q1 q2 t2
                   have H9 := Lib.hid hF9
                   clear hF9 hs9 hown9 hg9 hat9))
              go_roundg m
              case measure => omega
              case rel =>
                have hfdr : Gr.fd nb base m (out ++ X) (o' + ((l : Int)).toNat) (rest.drop kk) = R := by
                  rw [HX.out.1]
                  rcases HN.out.1 with ⟨h, _⟩ | ⟨_, h, _⟩ | ⟨_, h, _⟩ | ⟨_, _, h, _⟩ | ⟨_, _, _, h⟩ <;> first | exact h | exact absurd h (by decide) | (exfalso; omega) | (rw [HOK.out] at h; exact absurd h (by decide))
                rw [HRD.out] at hfdr
                obtain ⟨_, hx1, hx2, hx3⟩ := HX.out
                have := (H9.out.setQ (i := 2) (v := .int .i64 ((o' : Int) + (l : Int))) (A4 := some ⟨rbk, ro, none⟩) (c4 := c3) (o' := o' + ((l : Int)).toNat) (f' := 0) (rest' := rest) (by rw [← hsu]; simp [ptC]) H9.out.rs).setQ (i := 1) (v := .slice (some ⟨rbk, ro, none⟩) 0 0) (A4 := some ⟨rbk, ro, none⟩) (c4 := 0) (o' := o' + ((l : Int)).toNat) (f' := 0) (rest' := []) (by simp [ptC]) (BS.nil _ _ _)
                exact ⟨A9, c9, out ++ X, o' + ((l : Int)).toNat, some ⟨rbk, ro, none⟩, 0, [], by simp; omega, by simp, by simp, by omega, by omega, (by rw [hx2]; try rw [← HLX.out]), hfdr, by simpa [hkr, hck] using this⟩
            · go_wp2_with (first
                | (at_builtin; refine wpList_app bt rfl (.tmp 68) (.tmp 78) rfl B1 Ao out.length co out rfl H6.out.1.ot w.heap.size (some ⟨bb, bo + f, none⟩) l (cb - f) X (by simp [go_sem]) (by rw [HLX.out]; exact HBX.out) (by rw [HLX.out]; exact hq1) H6.out.1.lb ?_
                   intro A9 c9 w9 hown9 hg9 hat9
                   have hF9 : RdW w w9 qb B1 (some ⟨bb, bo, none⟩) nb cb Ah hs.length ch base o o' 0 (some ⟨rbk, ro, none⟩) c3 rest A9 c9 (out ++ X) := H6.out.1.app (by rw [HX.out.2.2.1, ← HLX.out]; exact hown9) hg9
                   have hs9 := H6.out.2.1.grown hg9 (Blk.row_ne H6.out.2.1 H6.out.1.ot (by decide))
                   have q1 := hF9.qk.cell 1
                   have q2 := hF9.qk.cell 2
                   have y1 := hF9.qk.frozen 1
                   have y2 := hF9.qk.frozen 2
                   have t2 := hs9.cell 2
                   simp [ptC] at q1 q2 t2
                   have H9 := Lib.hid hF9
                   clear hF9 hs9 hown9 hg9 hat9))
              go_roundg m
              case measure => omega
              case rel =>
                have hfdr : Gr.fd nb base m (out ++ X) (o' + ((l : Int)).toNat) (rest.drop kk) = R := by
                  rw [HX.out.1]
                  rcases HN.out.1 with ⟨h, _⟩ | ⟨_, h, _⟩ | ⟨_, h, _⟩ | ⟨_, _, h, _⟩ | ⟨_, _, _, h⟩ <;> first | exact h | exact absurd h (by decide) | (exfalso; omega) | (rw [HOK.out] at h; exact absurd h (by decide))
                obtain ⟨_, hx1, hx2, hx3⟩ := HX.out
                have hlx : (rest.drop kk).length = rest.length - kk := List.length_drop
                have hdr := H9.out.rs.drop (k := kk) (by omega)
                rw [← hlx] at hdr
                have hF10 := H9.out.setQ (i := 2) (v := .int .i64 ((o' : Int) + (l : Int))) (A4 := some ⟨rbk, ro, none⟩) (c4 := c3) (o' := o' + ((l : Int)).toNat) (f' := 0) (rest' := rest) (by rw [← hsu]; simp [ptC]) H9.out.rs
                have hdr2 := hF10.rs.drop (k := kk) (by omega)
                rw [← hlx] at hdr2
                have := hF10.setQ (i := 1) (v := .slice (some ⟨rbk, ro + kk, none⟩) (rest.drop kk).length (c3 - kk)) (A4 := some ⟨rbk, ro + kk, none⟩) (c4 := c3 - kk) (o' := o' + ((l : Int)).toNat) (f' := 0) (rest' := rest.drop kk) (by simp [ptC]) hdr2
                rw [hlx] at this
                exact ⟨A9, c9, out ++ X, o' + ((l : Int)).toNat, some ⟨rbk, ro + kk, none⟩, c3 - kk, rest.drop kk, by omega, by omega, by omega, by omega, by omega, (by rw [hx2]; try rw [← HLX.out]), hfdr, this⟩
          · obtain ⟨rfl, rfl, rfl, rfl⟩ := Gr.Stp.mk.inj hss
            have HH := hd1
            have hbx : BS w6 w6.heap.size Ad X.length X := by
              have hh : X = sd := by rw [hX]; simp [Gr.doesP]
              rw [hh]; exact H6.out.2.2
            have hlx1 : X = sd := by rw [hX]; simp [Gr.doesP]
            have HLX := Lib.hid (show X.length = X.length from rfl)
            have HBX := Lib.hid hbx
            clear hbx
            subst hlx1
            clear hX
            have hX : X = Gr.doesP base ⟨2, 0, (X.length : Int), X⟩ := by simp [Gr.doesP]
            have HX := Lib.hid (And.intro hX (And.intro hxl (And.intro hxo hol)))
            clear hX hxl hxo hol hdl q0 q3 s0 s1 s2 s3 z0 z1 z2 z3 y3 HH
            by_cases hck : c3 = kk
            · have hkr : rest.length = kk := by omega
              have hrd : rest.drop kk = [] := List.drop_of_length_le (by omega)
              have HRD := Lib.hid hrd
              clear hrd
              go_wp2_with (first
                | (at_builtin; refine wpList_app bt rfl (.tmp 80) (.tmp 82) rfl B1 Ao out.length co out rfl H6.out.1.ot w6.heap.size _ X.length _ X rfl HBX.out hq1 H6.out.1.lb ?_
                   intro A9 c9 w9 hown9 hg9 hat9
                   have hF9 : RdW w w9 qb B1 Ab nb cb Ah hs.length ch base o o' 0 (some ⟨rbk, ro, none⟩) c3 rest A9 c9 (out ++ X) := H6.out.1.app (by rw [HX.out.2.2.1]; exact hown9) hg9
                   have hs9 := H6.out.2.1.grown hg9 (Blk.row_ne H6.out.2.1 H6.out.1.ot (by decide))
                   have q1 := hF9.qk.cell 1
                   have q2 := hF9.qk.cell 2
                   have y1 := hF9.qk.frozen 1
                   have y2 := hF9.qk.frozen 2
                   have t2 := hs9.cell 2
                   simp [ptC] at q1 q2 t2
                   have H9 := Lib.hid hF9
                   clear hF9 hs9 hown9 hg9 hat9))
              go_roundg m
              case measure => omega
              case rel =>
                have hfdr : Gr.fd nb base m (out ++ X) (o' + ((X.length : Int)).toNat) (rest.drop kk) = R := by
                  rw [HX.out.1]
                  rcases HN.out.1 with ⟨h, _⟩ | ⟨_, h, _⟩ | ⟨_, h, _⟩ | ⟨_, _, h, _⟩ | ⟨_, _, _, h⟩ <;> first | exact h | exact absurd h (by decide) | (exfalso; omega) | (rw [HOK.out] at h; exact absurd h (by decide))
                rw [HRD.out] at hfdr
                obtain ⟨_, hx1, hx2, hx3⟩ := HX.out
                have := (H9.out.setQ (i := 2) (v := .int .i64 ((o' : Int) + (X.length : Int))) (A4 := some ⟨rbk, ro, none⟩) (c4 := c3) (o' := o' + ((X.length : Int)).toNat) (f' := 0) (rest' := rest) (by rw [← hsu]; simp [ptC]) H9.out.rs).setQ (i := 1) (v := .slice (some ⟨rbk, ro, none⟩) 0 0) (A4 := some ⟨rbk, ro, none⟩) (c4 := 0) (o' := o' + ((X.length : Int)).toNat) (f' := 0) (rest' := []) (by simp [ptC]) (BS.nil _ _ _)
                exact ⟨A9, c9, out ++ X, o' + ((X.length : Int)).toNat, some ⟨rbk, ro, none⟩, 0, [], by simp; omega, by simp, by simp, by omega, by omega, (by rw [hx2]; try rw [← HLX.out]), hfdr, by simpa [hkr, hck] using this⟩
            · go_wp2_with (first
                | (at_builtin; refine wpList_app bt rfl (.tmp 80) (.tmp 82) rfl B1 Ao out.length co out rfl H6.out.1.ot w6.heap.size _ X.length _ X rfl HBX.out hq1 H6.out.1.lb ?_
                   intro A9 c9 w9 hown9 hg9 hat9
                   have hF9 : RdW w w9 qb B1 Ab nb cb Ah hs.length ch base o o' 0 (some ⟨rbk, ro, none⟩) c3 rest A9 c9 (out ++ X) := H6.out.1.app (by rw [HX.out.2.2.1]; exact hown9) hg9
                   have hs9 := H6.out.2.1.grown hg9 (Blk.row_ne H6.out.2.1 H6.out.1.ot (by decide))
                   have q1 := hF9.qk.cell 1
                   have q2 := hF9.qk.cell 2
                   have y1 := hF9.qk.frozen 1
                   have y2 := hF9.qk.frozen 2
                   have t2 := hs9.cell 2
                   simp [ptC] at q1 q2 t2
                   have H9 := Lib.hid hF9
                   clear hF9 hs9 hown9 hg9 hat9))
              go_roundg m
              case measure => omega
              case rel =>
                have hfdr : Gr.fd nb base m (out ++ X) (o' + ((X.length : Int)).toNat) (rest.drop kk) = R := by
                  rw [HX.out.1]
                  rcases HN.out.1 with ⟨h, _⟩ | ⟨_, h, _⟩ | ⟨_, h, _⟩ | ⟨_, _, h, _⟩ | ⟨_, _, _, h⟩ <;> first | exact h | exact absurd h (by decide) | (exfalso; omega) | (rw [HOK.out] at h; exact absurd h (by decide))
                obtain ⟨_, hx1, hx2, hx3⟩ := HX.out
                have hlx : (rest.drop kk).length = rest.length - kk := List.length_drop
                have hdr := H9.out.rs.drop (k := kk) (by omega)
                rw [← hlx] at hdr
                have hF10 := H9.out.setQ (i := 2) (v := .int .i64 ((o' : Int) + (X.length : Int))) (A4 := some ⟨rbk, ro, none⟩) (c4 := c3) (o' := o' + ((X.length : Int)).toNat) (f' := 0) (rest' := rest) (by rw [← hsu]; simp [ptC]) H9.out.rs
                have hdr2 := hF10.rs.drop (k := kk) (by omega)
                rw [← hlx] at hdr2
                have := hF10.setQ (i := 1) (v := .slice (some ⟨rbk, ro + kk, none⟩) (rest.drop kk).length (c3 - kk)) (A4 := some ⟨rbk, ro + kk, none⟩) (c4 := c3 - kk) (o' := o' + ((X.length : Int)).toNat) (f' := 0) (rest' := rest.drop kk) (by simp [ptC]) hdr2
                rw [hlx] at this
                exact ⟨A9, c9, out ++ X, o' + ((X.length : Int)).toNat, some ⟨rbk, ro + kk, none⟩, c3 - kk, rest.drop kk, by omega, by omega, by omega, by omega, by omega, (by rw [hx2]; try rw [← HLX.out]), hfdr, this⟩
end Go.Proofs.Ytmnanbcinfdbaaa
