/- The walk of told; conditions: none beyond its hypotheses. -/
import Derived.Test.YtmnanbcinfdbaaaDoorMgHt
import Derived.Test.YtmnanbcinfdbaaaDoorMgLen
set_option linter.unusedSimpArgs false
set_option linter.unusedVariables false
section
namespace Go.Proofs.U
open Go.RowKit
set_option linter.unusedVariables false
theorem step_app2 {P : Program} {w : World} {t e : TypeId} (hB : Bt P t e) {ops : Array Oper} {o : Oper} {a : Act} {K : Act → World → Prop} {Q : Exit → Act → World → Prop} {E : Prop} (hg : o.guard = none) (s x : Operand)
    (ho : o.op = .call { callee := .builtin .append, args := #[s, x], argTypes := #[t, t] })
    (base : Nat) (A : Option Addr) (n c : Nat) (bs : List UInt8) (hs : a.eval s = .slice A n c) (hown : U.Own w base e A n c bs)
    (B : Nat) (A' : Option Addr) (m c' : Nat) (bs' : List UInt8) (hx : a.eval x = .slice A' m c') (hr : BS w B A' m bs') (hlen : n + m ≤ 140737488355328) (hbase : base ≤ w.heap.size)
    (h : ∀ A2 c2 w2, U.Own w2 base e A2 (n + m) c2 (bs ++ bs') → w.grownBy w2 (Value.slice A n c).ownBlock → ((Value.slice A2 (n + m) c2).ownBlock = (Value.slice A n c).ownBlock ∨ (Value.slice A2 (n + m) c2).ownBlock = some w.heap.size) → K (a.put o.dst (.slice A2 (n + m) c2)) w2) : if Region.wanted o (yielded ops a.tmps) = true then Oper.wp P o a w K Q else E := by
  have hw : Region.wanted o (yielded ops a.tmps) = true := by simp [Region.wanted, hg]
  rw [if_pos hw]
  obtain ⟨A2, c2, w2, hrun, h2, h3, h4⟩ := run_app (w := w) hB o.type base A n c bs hown B A' m c' bs' hr hlen hbase
  unfold Oper.wp execOp
  simp only [ho, resolve, invoke, builtin, Sem.run_bind, Sem.run_pure, Result.andThen_ok, List.map_toArray, List.map_cons, List.map_nil, hs, hx, hrun]
  exact h A2 c2 w2 h2 h3 h4
end Go.Proofs.U
namespace Go.Proofs.YtmnanbcinfdbaaaDoor
open Go.RowKit Go.Proofs.U
set_option linter.unusedVariables false
theorem tells_chunk (ini : List Gr.Stp) (f : Int) (q k : Nat) (d bs : List UInt8) (hk : k ≤ bs.length) (h : q + k ≤ 128) : tells (ini ++ [⟨2, f, (q : Int), d⟩]) bs = tells (ini ++ [⟨2, f, ((q : Int) + (k : Int)), d ++ bs.take k⟩]) (bs.drop k) := by
  conv => lhs; rw [← List.take_append_drop k bs]
  have hl : (bs.take k).length = k := by rw [List.length_take]; omega
  rw [tells_append, tells_open _ _ _ _ _ (by omega), hl]
/-- told steps are as long as they say -/
def Lits (l : List Gr.Stp) : Prop := ∀ x ∈ l, x.k = 2 → x.l = (x.d.length : Int) ∧ x.d.length ≤ 128
theorem Lits.snoc {ini : List Gr.Stp} {x y : Gr.Stp} (h : Lits (ini ++ [x])) (hy : y.l = (y.d.length : Int) ∧ y.d.length ≤ 128) : Lits (ini ++ [y]) := by
  intro z hz hk
  rcases List.mem_append.1 hz with hz | hz
  · exact h z (by simp [hz]) hk
  · simp only [List.mem_singleton] at hz
    subst hz
    exact hy
theorem tells_fresh {l : List Gr.Stp} {bs : List UInt8} (h : Shut l) (h1 : 0 < bs.length) : tells l bs = tells (l ++ [⟨2, 0, 0, []⟩]) bs := by
  obtain ⟨c, r, rfl⟩ : ∃ c r, bs = c :: r := by
    cases bs with
    | nil => simp at h1
    | cons c r => exact ⟨c, r, rfl⟩
  rw [tells_cons, tells_cons, tell_shut l c h, tell_open _ _ _ _ _ (by decide)]
  rfl
/-- what holds at the head of a round of told -/
def ToldAt (w : World) (base t B : Nat) (R : List Gr.Stp) (r : Nat) (v : Value) (wr : World) : Prop :=
  ∃ Ab c' bs' l A n c, v = .slice Ab r c' ∧ r ≤ c' ∧ BS wr B Ab r bs' ∧ Tr wr base t A n c l ∧ tells l bs' = R ∧ Lits l ∧ l.length + r ≤ 1000000 ∧ Below B w wr ∧ Spare t w wr
set_option maxRecDepth 100000 in
set_option maxHeartbeats 8000000 in
theorem told_any (base t n c B : Nat) (w : World) (A : Option Addr) (l : List Gr.Stp) (Ab : Option Addr) (m cb : Nat) (bs : List UInt8) (h : Tr w base t A n c l) (hb : BS w B Ab m bs) (hc : m ≤ cb) (hB : B ≤ base) (hL : Lits l) (hlm : l.length + m ≤ 1000000) :
    Calls Tryd.prog 82 #[.pointer (some ⟨t, 0, none⟩), .slice Ab m cb] w (TrRet w base t B (tells l bs)) := by
  obtain ⟨R, hR⟩ : ∃ R, R = tells l bs := ⟨_, rfl⟩
  rw [← hR]
  have hone : ∀ u ∈ stpCells ⟨2, 0, 0, []⟩ none 0, u.oneCell' = true := fun u hu => by
    simp only [stpCells, List.mem_cons, List.not_mem_nil, or_false] at hu
    rcases hu with rfl | rfl | rfl | rfl <;> rfl
  have HO := Lib.hid hone
  have hBB := hB
  go_enter Tryd.func82, Tryd.ntmps82
  go_wp2_with fail
  go_loopg [1] m (fun r v wr => ToldAt w base t B R r v wr)
  case atStart => exact ⟨Ab, cb, bs, l, A, n, c, rfl, hc, hb, h, hR.symm, hL, hlm, Below.refl _ _, Spare.refl _ _⟩
  case round =>
    clear h hb hc hL hlm hR hone
    obtain ⟨Ab, c', bs', l, A, n, c, rfl, hc', hbs, hT0, hR, hL, hlm, hbw, hsp⟩ := hrel
    obtain ⟨wo, rfl⟩ : ∃ wo : World, wo = wr := ⟨_, rfl⟩
    have hblen := hbs.1
    by_cases hpos : 0 < gk
    · have p1 : decide ((0 : Int) < (gk : Int)) = true := by simpa using hpos
      have p2 : decide (0 < gk) = true := by simpa using hpos
      have hnl := hT0.len
      have hn6 : n ≤ 1000000 := by omega
      by_cases hop : ∃ ini f q d, l = ini ++ [⟨2, f, ((q : Nat) : Int), d⟩] ∧ q < 128
      · obtain ⟨ini, f, q, d, rfl, hq⟩ := hop
        have hd : d.length = q := by
          have := (hL ⟨2, f, (q : Int), d⟩ (by simp) rfl).1
          simp only at this
          omega
        subst hd
        obtain ⟨g, rfl⟩ : ∃ g, A = some ⟨g, 0, none⟩ := by obtain ⟨g, _, _, h, _⟩ := hT0.last_; exact ⟨g, h⟩
        have hl1 := tlast_yes base t g n c wo ini ⟨2, f, (d.length : Int), d⟩ 2 hT0 rfl hn6
        have hT := hT0
        have HRR := Lib.hid (And.intro hR (And.intro hL (And.intro hlm hblen)))
        have z1 : decide ((d.length : Int) = 128) = false := by simp; omega
        have z2 : ((d.length : Int) == 128) = false := by simp; omega
        clear hR hL hlm hT0 hnl hblen
        rcases Nat.lt_trichotomy gk (128 - d.length) with hsmall | hsmall | hsmall
        · by_cases hcc : c' = gk
          · obtain ⟨g', Al, cl, hA, hn1, hnc, hgl, hgb, hc0, s0, s1, s2, s3, hfr, hown⟩ := hT.last_
            obtain rfl : g = g' := by injection hA with hA; injection hA
            clear hn1 hA s0 s1
            simp only at s2 s3 hown
            have k1 : 1 ≤ gk := by omega
            have k2 : gk ≤ gk := by omega
            have k3 : d.length + gk ≤ 128 := by omega
            have k4 : gk ≤ c' := by omega
            have hw1 : IntKind.i64.wrap ((128 : Int) - (d.length : Int)) = (128 : Int) - (d.length : Int) := by rw [IntKind.wrap_i64]; omega
            have z3 : decide ((gk : Int) < (128 : Int) - (d.length : Int)) = true := by simp; omega
            have hw2 : IntKind.i64.wrap ((d.length : Int) + (gk : Int)) = (d.length : Int) + (gk : Int) := by rw [IntKind.wrap_i64]; omega
            obtain ⟨bb, bo, rfl, _⟩ := hbs.2 hpos
            obtain rfl : gk = c' := by omega
            have hbk : BS wo B (some ⟨bb, bo, none⟩) gk (bs'.take gk) := hbs.take k2
            have hbd : BS wo B (some ⟨bb, bo + gk, none⟩) (gk - gk) (bs'.drop gk) := hbs.drop k2
            have hnd : ∀ j, (Value.slice Al d.length cl).ownBlock = some j → j ≠ g := fun j hj => by
              obtain ⟨_, _, cur, fr, hh⟩ := own_block_lt hown j hj
              obtain ⟨_, _, vs', r3, _⟩ := hT
              obtain ⟨_, _, cur', fr', hh'⟩ := row_block r3 g rfl
              exact row_ne hh hh' (by decide)
            have hfix : ∀ w4, World.grownBy (wo.drew) w4 (Value.slice Al d.length cl).ownBlock → w4.cell? ⟨g, ini.length * 4 + 3, none⟩ = some (.slice Al d.length cl) ∧ w4.frozen? ⟨g, ini.length * 4 + 3, none⟩ = false := fun w4 hg => by
              have := hg.block g hgl (fun e => hnd g e.symm rfl)
              exact ⟨(World.cell?_of_block (a := ⟨g, ini.length * 4 + 3, none⟩) this).trans s3, (World.frozen?_of_block (a := ⟨g, ini.length * 4 + 3, none⟩) this).trans (hfr _)⟩
            have HFX := Lib.hid hfix
            have hownD : U.Own (wo.drew) base 5 Al d.length cl d := hown.drew
            have hbkD : BS (wo.drew) B (some ⟨bb, bo, none⟩) gk (bs'.take gk) := hbk
            have hlen5 : d.length + gk ≤ 140737488355328 := by omega
            have hbzD : base ≤ (wo.drew).heap.size := by
              have h1 := Blk.lt hT.1
              have h2 := hT.2.1
              have h3 : (wo.drew).heap.size = wo.heap.size := rfl
              omega
            have HK := Lib.hid (And.intro trivial (And.intro trivial (And.intro hbd (And.intro trivial hfr))))
            have hfr2 := hfr (ini.length * 4 + 3)
            clear hbd hnd hfix hfr
            go_wp2_with (go_at_call 108; refine hl1.mono ?_; rintro e w1 ⟨rfl, rfl⟩)
            go_region_law (refine step_app2 bt rfl (.tmp 44) (.tmp 48) rfl base Al d.length cl d rfl hownD _ _ _ _ (bs'.take gk) rfl hbkD hlen5 hbzD ?_; intro A4 c4 w4 hown4 hg4 hw4; have e0 := (HFX.out w4 hg4).1; have e1 := (HFX.out w4 hg4).2)
            all_goals
              have hT5 := Tr.setData (w := wo.drew) hT rfl s3 hg4 hown4 hw4
              have hs5 : Spare t wo (w4.setCell ⟨g, ini.length * 4 + 3, none⟩ (.slice A4 (d.length + gk) c4)) := by
                obtain ⟨_, _, vs', r3, _⟩ := hT
                obtain ⟨_, _, cur', fr', hh'⟩ := row_block r3 g rfl
                have hh4 : w4.heap[g]? = some (.cells cur' 68 fr') := (hg4.block g hgl (fun e => by
                  obtain ⟨_, _, cur, fr, hh⟩ := own_block_lt hown g e.symm
                  exact absurd rfl (row_ne hh hh' (by decide)))).trans hh'
                refine Spare.trans (b := w4) (Spare.grown (w := wo.drew) hg4 fun j hj => ?_) (Spare.grown (grown_setC w4 g _ _) fun j hj => ?_)
                · obtain ⟨_, _, cur, fr, hh⟩ := own_block_lt hown j hj
                  exact .inr ⟨cur, _, fr, hh, .inr rfl⟩
                · injection hj with hj
                  subst hj
                  exact .inr ⟨cur', _, fr', hh4, .inl rfl⟩
              have hb5 : Below B wo (w4.setCell ⟨g, ini.length * 4 + 3, none⟩ (.slice A4 (d.length + gk) c4)) := by
                have z1 : B ≤ (wo.drew).heap.size := Nat.le_trans hB hbzD
                have z2 := (below_drewN (Below.refl B wo) 1).grown hg4 z1 (fun j hj => by
                  obtain ⟨_, h, _⟩ := own_block_lt hown j hj
                  omega)
                exact z2.grown (grown_setC w4 g _ _) (Nat.le_trans z1 hg4.size) (fun j hj => by injection hj; omega)
              obtain ⟨w5, hw5⟩ : ∃ w5, w5 = w4.setCell ⟨g, ini.length * 4 + 3, none⟩ (.slice A4 (d.length + gk) c4) := ⟨_, rfl⟩
              rw [← hw5] at hT5 hs5 hb5 ⊢
              obtain ⟨g'', Al5, cl5, hA5, hn5, _, hgl5, _, hc5, _, _, t2, _, hfr5, _⟩ := hT5.last_
              obtain rfl : g = g'' := by injection hA5 with hA5; injection hA5
              simp only at t2
              have hfr6 := hfr5 (ini.length * 4 + 2)
              clear hw5 hown4 hg4 hw4 e0 e1 s2 s3 hA5 hn5 hc5 hfr5
              go_wp2_with fail
              have hT7 := hT5.setLen rfl ((d.length : Int) + (gk : Int))
              have hs7 : Spare t w5 (w5.setCell ⟨g, ini.length * 4 + 2, none⟩ (.int .i64 ((d.length : Int) + (gk : Int)))) := by
                obtain ⟨_, _, vs', r3, _⟩ := hT5
                obtain ⟨_, _, cur', fr', hh'⟩ := row_block r3 g rfl
                exact Spare.grown (grown_setC w5 g _ _) fun j hj => by injection hj with hj; subst hj; exact .inr ⟨cur', _, fr', hh', .inl rfl⟩
              have hb7 : Below B w5 (w5.setCell ⟨g, ini.length * 4 + 2, none⟩ (.int .i64 ((d.length : Int) + (gk : Int)))) := (Below.refl B w5).grown (grown_setC w5 g _ _) (by omega) (fun j hj => by injection hj; omega)
              go_roundg 0
              case measure => omega
              case rel => exact ⟨some ⟨bb, bo, none⟩, 0, [], ini ++ [⟨2, f, ((d.length : Int) + (gk : Int)), d ++ bs'.take gk⟩], _, _, _, rfl, by omega, BS.nil _ _ _, hT7, (by have h9 := HRR.out.1; rw [tells_chunk ini f d.length gk d bs' (by rw [HRR.out.2.2.2]; exact k2) k3, List.drop_of_length_le (by rw [HRR.out.2.2.2]; exact Nat.le_refl _)] at h9; exact h9), (HRR.out.2.1.snoc (by simp only [List.length_append, List.length_take]; rw [HRR.out.2.2.2]; omega)), (by have := HRR.out.2.2.1; simp only [List.length_append, List.length_cons, List.length_nil] at this ⊢; omega), (hbw).trans (hb5.trans hb7), (hsp).trans (hs5.trans hs7)⟩
          · obtain ⟨g', Al, cl, hA, hn1, hnc, hgl, hgb, hc0, s0, s1, s2, s3, hfr, hown⟩ := hT.last_
            obtain rfl : g = g' := by injection hA with hA; injection hA
            clear hn1 hA s0 s1
            simp only at s2 s3 hown
            have k1 : 1 ≤ gk := by omega
            have k2 : gk ≤ gk := by omega
            have k3 : d.length + gk ≤ 128 := by omega
            have k4 : gk ≤ c' := by omega
            have hw1 : IntKind.i64.wrap ((128 : Int) - (d.length : Int)) = (128 : Int) - (d.length : Int) := by rw [IntKind.wrap_i64]; omega
            have z3 : decide ((gk : Int) < (128 : Int) - (d.length : Int)) = true := by simp; omega
            have hw2 : IntKind.i64.wrap ((d.length : Int) + (gk : Int)) = (d.length : Int) + (gk : Int) := by rw [IntKind.wrap_i64]; omega
            obtain ⟨bb, bo, rfl, _⟩ := hbs.2 hpos
            have hck : ¬ c' = gk := hcc
            have hbk : BS wo B (some ⟨bb, bo, none⟩) gk (bs'.take gk) := hbs.take k2
            have hbd : BS wo B (some ⟨bb, bo + gk, none⟩) (gk - gk) (bs'.drop gk) := hbs.drop k2
            have hnd : ∀ j, (Value.slice Al d.length cl).ownBlock = some j → j ≠ g := fun j hj => by
              obtain ⟨_, _, cur, fr, hh⟩ := own_block_lt hown j hj
              obtain ⟨_, _, vs', r3, _⟩ := hT
              obtain ⟨_, _, cur', fr', hh'⟩ := row_block r3 g rfl
              exact row_ne hh hh' (by decide)
            have hfix : ∀ w4, World.grownBy (wo.drew) w4 (Value.slice Al d.length cl).ownBlock → w4.cell? ⟨g, ini.length * 4 + 3, none⟩ = some (.slice Al d.length cl) ∧ w4.frozen? ⟨g, ini.length * 4 + 3, none⟩ = false := fun w4 hg => by
              have := hg.block g hgl (fun e => hnd g e.symm rfl)
              exact ⟨(World.cell?_of_block (a := ⟨g, ini.length * 4 + 3, none⟩) this).trans s3, (World.frozen?_of_block (a := ⟨g, ini.length * 4 + 3, none⟩) this).trans (hfr _)⟩
            have HFX := Lib.hid hfix
            have hownD : U.Own (wo.drew) base 5 Al d.length cl d := hown.drew
            have hbkD : BS (wo.drew) B (some ⟨bb, bo, none⟩) gk (bs'.take gk) := hbk
            have hlen5 : d.length + gk ≤ 140737488355328 := by omega
            have hbzD : base ≤ (wo.drew).heap.size := by
              have h1 := Blk.lt hT.1
              have h2 := hT.2.1
              have h3 : (wo.drew).heap.size = wo.heap.size := rfl
              omega
            have HK := Lib.hid (And.intro trivial (And.intro trivial (And.intro hbd (And.intro trivial hfr))))
            have hfr2 := hfr (ini.length * 4 + 3)
            clear hbd hnd hfix hfr
            go_wp2_with (go_at_call 108; refine hl1.mono ?_; rintro e w1 ⟨rfl, rfl⟩)
            go_region_law (refine step_app2 bt rfl (.tmp 44) (.tmp 48) rfl base Al d.length cl d rfl hownD _ _ _ _ (bs'.take gk) rfl hbkD hlen5 hbzD ?_; intro A4 c4 w4 hown4 hg4 hw4; have e0 := (HFX.out w4 hg4).1; have e1 := (HFX.out w4 hg4).2)
            all_goals
              have hT5 := Tr.setData (w := wo.drew) hT rfl s3 hg4 hown4 hw4
              have hs5 : Spare t wo (w4.setCell ⟨g, ini.length * 4 + 3, none⟩ (.slice A4 (d.length + gk) c4)) := by
                obtain ⟨_, _, vs', r3, _⟩ := hT
                obtain ⟨_, _, cur', fr', hh'⟩ := row_block r3 g rfl
                have hh4 : w4.heap[g]? = some (.cells cur' 68 fr') := (hg4.block g hgl (fun e => by
                  obtain ⟨_, _, cur, fr, hh⟩ := own_block_lt hown g e.symm
                  exact absurd rfl (row_ne hh hh' (by decide)))).trans hh'
                refine Spare.trans (b := w4) (Spare.grown (w := wo.drew) hg4 fun j hj => ?_) (Spare.grown (grown_setC w4 g _ _) fun j hj => ?_)
                · obtain ⟨_, _, cur, fr, hh⟩ := own_block_lt hown j hj
                  exact .inr ⟨cur, _, fr, hh, .inr rfl⟩
                · injection hj with hj
                  subst hj
                  exact .inr ⟨cur', _, fr', hh4, .inl rfl⟩
              have hb5 : Below B wo (w4.setCell ⟨g, ini.length * 4 + 3, none⟩ (.slice A4 (d.length + gk) c4)) := by
                have z1 : B ≤ (wo.drew).heap.size := Nat.le_trans hB hbzD
                have z2 := (below_drewN (Below.refl B wo) 1).grown hg4 z1 (fun j hj => by
                  obtain ⟨_, h, _⟩ := own_block_lt hown j hj
                  omega)
                exact z2.grown (grown_setC w4 g _ _) (Nat.le_trans z1 hg4.size) (fun j hj => by injection hj; omega)
              obtain ⟨w5, hw5⟩ : ∃ w5, w5 = w4.setCell ⟨g, ini.length * 4 + 3, none⟩ (.slice A4 (d.length + gk) c4) := ⟨_, rfl⟩
              rw [← hw5] at hT5 hs5 hb5 ⊢
              obtain ⟨g'', Al5, cl5, hA5, hn5, _, hgl5, _, hc5, _, _, t2, _, hfr5, _⟩ := hT5.last_
              obtain rfl : g = g'' := by injection hA5 with hA5; injection hA5
              simp only at t2
              have hfr6 := hfr5 (ini.length * 4 + 2)
              clear hw5 hown4 hg4 hw4 e0 e1 s2 s3 hA5 hn5 hc5 hfr5
              go_wp2_with fail
              have hT7 := hT5.setLen rfl ((d.length : Int) + (gk : Int))
              have hs7 : Spare t w5 (w5.setCell ⟨g, ini.length * 4 + 2, none⟩ (.int .i64 ((d.length : Int) + (gk : Int)))) := by
                obtain ⟨_, _, vs', r3, _⟩ := hT5
                obtain ⟨_, _, cur', fr', hh'⟩ := row_block r3 g rfl
                exact Spare.grown (grown_setC w5 g _ _) fun j hj => by injection hj with hj; subst hj; exact .inr ⟨cur', _, fr', hh', .inl rfl⟩
              have hb7 : Below B w5 (w5.setCell ⟨g, ini.length * 4 + 2, none⟩ (.int .i64 ((d.length : Int) + (gk : Int)))) := (Below.refl B w5).grown (grown_setC w5 g _ _) (by omega) (fun j hj => by injection hj; omega)
              go_roundg 0
              case measure => omega
              case rel => exact ⟨some ⟨bb, bo + gk, none⟩, c' - gk, [], ini ++ [⟨2, f, ((d.length : Int) + (gk : Int)), d ++ bs'.take gk⟩], _, _, _, rfl, by omega, BS.nil _ _ _, hT7, (by have h9 := HRR.out.1; rw [tells_chunk ini f d.length gk d bs' (by rw [HRR.out.2.2.2]; exact k2) k3, List.drop_of_length_le (by rw [HRR.out.2.2.2]; exact Nat.le_refl _)] at h9; exact h9), (HRR.out.2.1.snoc (by simp only [List.length_append, List.length_take]; rw [HRR.out.2.2.2]; omega)), (by have := HRR.out.2.2.1; simp only [List.length_append, List.length_cons, List.length_nil] at this ⊢; omega), (hbw).trans (hb5.trans hb7), (hsp).trans (hs5.trans hs7)⟩
        · by_cases hcc : c' = gk
          · obtain ⟨g', Al, cl, hA, hn1, hnc, hgl, hgb, hc0, s0, s1, s2, s3, hfr, hown⟩ := hT.last_
            obtain rfl : g = g' := by injection hA with hA; injection hA
            clear hn1 hA s0 s1
            simp only at s2 s3 hown
            have k1 : 1 ≤ gk := by omega
            have k2 : gk ≤ gk := by omega
            have k3 : d.length + gk ≤ 128 := by omega
            have k4 : gk ≤ c' := by omega
            have hw1 : IntKind.i64.wrap ((128 : Int) - (d.length : Int)) = (gk : Int) := by rw [IntKind.wrap_i64]; omega
            have z3 : decide ((gk : Int) < (gk : Int)) = false := by simp
            have z4 : decide (gk < gk) = false := by simp
            have hw2 : IntKind.i64.wrap ((d.length : Int) + (gk : Int)) = (d.length : Int) + (gk : Int) := by rw [IntKind.wrap_i64]; omega
            obtain ⟨bb, bo, rfl, _⟩ := hbs.2 hpos
            obtain rfl : gk = c' := by omega
            have hbk : BS wo B (some ⟨bb, bo, none⟩) gk (bs'.take gk) := hbs.take k2
            have hbd : BS wo B (some ⟨bb, bo + gk, none⟩) (gk - gk) (bs'.drop gk) := hbs.drop k2
            have hnd : ∀ j, (Value.slice Al d.length cl).ownBlock = some j → j ≠ g := fun j hj => by
              obtain ⟨_, _, cur, fr, hh⟩ := own_block_lt hown j hj
              obtain ⟨_, _, vs', r3, _⟩ := hT
              obtain ⟨_, _, cur', fr', hh'⟩ := row_block r3 g rfl
              exact row_ne hh hh' (by decide)
            have hfix : ∀ w4, World.grownBy (wo.drew) w4 (Value.slice Al d.length cl).ownBlock → w4.cell? ⟨g, ini.length * 4 + 3, none⟩ = some (.slice Al d.length cl) ∧ w4.frozen? ⟨g, ini.length * 4 + 3, none⟩ = false := fun w4 hg => by
              have := hg.block g hgl (fun e => hnd g e.symm rfl)
              exact ⟨(World.cell?_of_block (a := ⟨g, ini.length * 4 + 3, none⟩) this).trans s3, (World.frozen?_of_block (a := ⟨g, ini.length * 4 + 3, none⟩) this).trans (hfr _)⟩
            have HFX := Lib.hid hfix
            have hownD : U.Own (wo.drew) base 5 Al d.length cl d := hown.drew
            have hbkD : BS (wo.drew) B (some ⟨bb, bo, none⟩) gk (bs'.take gk) := hbk
            have hlen5 : d.length + gk ≤ 140737488355328 := by omega
            have hbzD : base ≤ (wo.drew).heap.size := by
              have h1 := Blk.lt hT.1
              have h2 := hT.2.1
              have h3 : (wo.drew).heap.size = wo.heap.size := rfl
              omega
            have HK := Lib.hid (And.intro trivial (And.intro trivial (And.intro hbd (And.intro trivial hfr))))
            have hfr2 := hfr (ini.length * 4 + 3)
            clear hbd hnd hfix hfr hsmall
            go_wp2_with (go_at_call 108; refine hl1.mono ?_; rintro e w1 ⟨rfl, rfl⟩)
            go_region_law (refine step_app2 bt rfl (.tmp 44) (.tmp 48) rfl base Al d.length cl d rfl hownD _ _ _ _ (bs'.take gk) rfl hbkD hlen5 hbzD ?_; intro A4 c4 w4 hown4 hg4 hw4; have e0 := (HFX.out w4 hg4).1; have e1 := (HFX.out w4 hg4).2)
            all_goals
              have hT5 := Tr.setData (w := wo.drew) hT rfl s3 hg4 hown4 hw4
              have hs5 : Spare t wo (w4.setCell ⟨g, ini.length * 4 + 3, none⟩ (.slice A4 (d.length + gk) c4)) := by
                obtain ⟨_, _, vs', r3, _⟩ := hT
                obtain ⟨_, _, cur', fr', hh'⟩ := row_block r3 g rfl
                have hh4 : w4.heap[g]? = some (.cells cur' 68 fr') := (hg4.block g hgl (fun e => by
                  obtain ⟨_, _, cur, fr, hh⟩ := own_block_lt hown g e.symm
                  exact absurd rfl (row_ne hh hh' (by decide)))).trans hh'
                refine Spare.trans (b := w4) (Spare.grown (w := wo.drew) hg4 fun j hj => ?_) (Spare.grown (grown_setC w4 g _ _) fun j hj => ?_)
                · obtain ⟨_, _, cur, fr, hh⟩ := own_block_lt hown j hj
                  exact .inr ⟨cur, _, fr, hh, .inr rfl⟩
                · injection hj with hj
                  subst hj
                  exact .inr ⟨cur', _, fr', hh4, .inl rfl⟩
              have hb5 : Below B wo (w4.setCell ⟨g, ini.length * 4 + 3, none⟩ (.slice A4 (d.length + gk) c4)) := by
                have z1 : B ≤ (wo.drew).heap.size := Nat.le_trans hB hbzD
                have z2 := (below_drewN (Below.refl B wo) 1).grown hg4 z1 (fun j hj => by
                  obtain ⟨_, h, _⟩ := own_block_lt hown j hj
                  omega)
                exact z2.grown (grown_setC w4 g _ _) (Nat.le_trans z1 hg4.size) (fun j hj => by injection hj; omega)
              obtain ⟨w5, hw5⟩ : ∃ w5, w5 = w4.setCell ⟨g, ini.length * 4 + 3, none⟩ (.slice A4 (d.length + gk) c4) := ⟨_, rfl⟩
              rw [← hw5] at hT5 hs5 hb5 ⊢
              obtain ⟨g'', Al5, cl5, hA5, hn5, _, hgl5, _, hc5, _, _, t2, _, hfr5, _⟩ := hT5.last_
              obtain rfl : g = g'' := by injection hA5 with hA5; injection hA5
              simp only at t2
              have hfr6 := hfr5 (ini.length * 4 + 2)
              clear hw5 hown4 hg4 hw4 e0 e1 s2 s3 hA5 hn5 hc5 hfr5
              go_wp2_with fail
              have hT7 := hT5.setLen rfl ((d.length : Int) + (gk : Int))
              have hs7 : Spare t w5 (w5.setCell ⟨g, ini.length * 4 + 2, none⟩ (.int .i64 ((d.length : Int) + (gk : Int)))) := by
                obtain ⟨_, _, vs', r3, _⟩ := hT5
                obtain ⟨_, _, cur', fr', hh'⟩ := row_block r3 g rfl
                exact Spare.grown (grown_setC w5 g _ _) fun j hj => by injection hj with hj; subst hj; exact .inr ⟨cur', _, fr', hh', .inl rfl⟩
              have hb7 : Below B w5 (w5.setCell ⟨g, ini.length * 4 + 2, none⟩ (.int .i64 ((d.length : Int) + (gk : Int)))) := (Below.refl B w5).grown (grown_setC w5 g _ _) (by omega) (fun j hj => by injection hj; omega)
              go_roundg 0
              case measure => omega
              case rel => exact ⟨some ⟨bb, bo, none⟩, 0, [], ini ++ [⟨2, f, ((d.length : Int) + (gk : Int)), d ++ bs'.take gk⟩], _, _, _, rfl, by omega, BS.nil _ _ _, hT7, (by have h9 := HRR.out.1; rw [tells_chunk ini f d.length gk d bs' (by rw [HRR.out.2.2.2]; exact k2) k3, List.drop_of_length_le (by rw [HRR.out.2.2.2]; exact Nat.le_refl _)] at h9; exact h9), (HRR.out.2.1.snoc (by simp only [List.length_append, List.length_take]; rw [HRR.out.2.2.2]; omega)), (by have := HRR.out.2.2.1; simp only [List.length_append, List.length_cons, List.length_nil] at this ⊢; omega), (hbw).trans (hb5.trans hb7), (hsp).trans (hs5.trans hs7)⟩
          · obtain ⟨g', Al, cl, hA, hn1, hnc, hgl, hgb, hc0, s0, s1, s2, s3, hfr, hown⟩ := hT.last_
            obtain rfl : g = g' := by injection hA with hA; injection hA
            clear hn1 hA s0 s1
            simp only at s2 s3 hown
            have k1 : 1 ≤ gk := by omega
            have k2 : gk ≤ gk := by omega
            have k3 : d.length + gk ≤ 128 := by omega
            have k4 : gk ≤ c' := by omega
            have hw1 : IntKind.i64.wrap ((128 : Int) - (d.length : Int)) = (gk : Int) := by rw [IntKind.wrap_i64]; omega
            have z3 : decide ((gk : Int) < (gk : Int)) = false := by simp
            have z4 : decide (gk < gk) = false := by simp
            have hw2 : IntKind.i64.wrap ((d.length : Int) + (gk : Int)) = (d.length : Int) + (gk : Int) := by rw [IntKind.wrap_i64]; omega
            obtain ⟨bb, bo, rfl, _⟩ := hbs.2 hpos
            have hck : ¬ c' = gk := hcc
            have hbk : BS wo B (some ⟨bb, bo, none⟩) gk (bs'.take gk) := hbs.take k2
            have hbd : BS wo B (some ⟨bb, bo + gk, none⟩) (gk - gk) (bs'.drop gk) := hbs.drop k2
            have hnd : ∀ j, (Value.slice Al d.length cl).ownBlock = some j → j ≠ g := fun j hj => by
              obtain ⟨_, _, cur, fr, hh⟩ := own_block_lt hown j hj
              obtain ⟨_, _, vs', r3, _⟩ := hT
              obtain ⟨_, _, cur', fr', hh'⟩ := row_block r3 g rfl
              exact row_ne hh hh' (by decide)
            have hfix : ∀ w4, World.grownBy (wo.drew) w4 (Value.slice Al d.length cl).ownBlock → w4.cell? ⟨g, ini.length * 4 + 3, none⟩ = some (.slice Al d.length cl) ∧ w4.frozen? ⟨g, ini.length * 4 + 3, none⟩ = false := fun w4 hg => by
              have := hg.block g hgl (fun e => hnd g e.symm rfl)
              exact ⟨(World.cell?_of_block (a := ⟨g, ini.length * 4 + 3, none⟩) this).trans s3, (World.frozen?_of_block (a := ⟨g, ini.length * 4 + 3, none⟩) this).trans (hfr _)⟩
            have HFX := Lib.hid hfix
            have hownD : U.Own (wo.drew) base 5 Al d.length cl d := hown.drew
            have hbkD : BS (wo.drew) B (some ⟨bb, bo, none⟩) gk (bs'.take gk) := hbk
            have hlen5 : d.length + gk ≤ 140737488355328 := by omega
            have hbzD : base ≤ (wo.drew).heap.size := by
              have h1 := Blk.lt hT.1
              have h2 := hT.2.1
              have h3 : (wo.drew).heap.size = wo.heap.size := rfl
              omega
            have HK := Lib.hid (And.intro trivial (And.intro trivial (And.intro hbd (And.intro trivial hfr))))
            have hfr2 := hfr (ini.length * 4 + 3)
            clear hbd hnd hfix hfr hsmall
            go_wp2_with (go_at_call 108; refine hl1.mono ?_; rintro e w1 ⟨rfl, rfl⟩)
            go_region_law (refine step_app2 bt rfl (.tmp 44) (.tmp 48) rfl base Al d.length cl d rfl hownD _ _ _ _ (bs'.take gk) rfl hbkD hlen5 hbzD ?_; intro A4 c4 w4 hown4 hg4 hw4; have e0 := (HFX.out w4 hg4).1; have e1 := (HFX.out w4 hg4).2)
            all_goals
              have hT5 := Tr.setData (w := wo.drew) hT rfl s3 hg4 hown4 hw4
              have hs5 : Spare t wo (w4.setCell ⟨g, ini.length * 4 + 3, none⟩ (.slice A4 (d.length + gk) c4)) := by
                obtain ⟨_, _, vs', r3, _⟩ := hT
                obtain ⟨_, _, cur', fr', hh'⟩ := row_block r3 g rfl
                have hh4 : w4.heap[g]? = some (.cells cur' 68 fr') := (hg4.block g hgl (fun e => by
                  obtain ⟨_, _, cur, fr, hh⟩ := own_block_lt hown g e.symm
                  exact absurd rfl (row_ne hh hh' (by decide)))).trans hh'
                refine Spare.trans (b := w4) (Spare.grown (w := wo.drew) hg4 fun j hj => ?_) (Spare.grown (grown_setC w4 g _ _) fun j hj => ?_)
                · obtain ⟨_, _, cur, fr, hh⟩ := own_block_lt hown j hj
                  exact .inr ⟨cur, _, fr, hh, .inr rfl⟩
                · injection hj with hj
                  subst hj
                  exact .inr ⟨cur', _, fr', hh4, .inl rfl⟩
              have hb5 : Below B wo (w4.setCell ⟨g, ini.length * 4 + 3, none⟩ (.slice A4 (d.length + gk) c4)) := by
                have z1 : B ≤ (wo.drew).heap.size := Nat.le_trans hB hbzD
                have z2 := (below_drewN (Below.refl B wo) 1).grown hg4 z1 (fun j hj => by
                  obtain ⟨_, h, _⟩ := own_block_lt hown j hj
                  omega)
                exact z2.grown (grown_setC w4 g _ _) (Nat.le_trans z1 hg4.size) (fun j hj => by injection hj; omega)
              obtain ⟨w5, hw5⟩ : ∃ w5, w5 = w4.setCell ⟨g, ini.length * 4 + 3, none⟩ (.slice A4 (d.length + gk) c4) := ⟨_, rfl⟩
              rw [← hw5] at hT5 hs5 hb5 ⊢
              obtain ⟨g'', Al5, cl5, hA5, hn5, _, hgl5, _, hc5, _, _, t2, _, hfr5, _⟩ := hT5.last_
              obtain rfl : g = g'' := by injection hA5 with hA5; injection hA5
              simp only at t2
              have hfr6 := hfr5 (ini.length * 4 + 2)
              clear hw5 hown4 hg4 hw4 e0 e1 s2 s3 hA5 hn5 hc5 hfr5
              go_wp2_with fail
              have hT7 := hT5.setLen rfl ((d.length : Int) + (gk : Int))
              have hs7 : Spare t w5 (w5.setCell ⟨g, ini.length * 4 + 2, none⟩ (.int .i64 ((d.length : Int) + (gk : Int)))) := by
                obtain ⟨_, _, vs', r3, _⟩ := hT5
                obtain ⟨_, _, cur', fr', hh'⟩ := row_block r3 g rfl
                exact Spare.grown (grown_setC w5 g _ _) fun j hj => by injection hj with hj; subst hj; exact .inr ⟨cur', _, fr', hh', .inl rfl⟩
              have hb7 : Below B w5 (w5.setCell ⟨g, ini.length * 4 + 2, none⟩ (.int .i64 ((d.length : Int) + (gk : Int)))) := (Below.refl B w5).grown (grown_setC w5 g _ _) (by omega) (fun j hj => by injection hj; omega)
              go_roundg 0
              case measure => omega
              case rel => exact ⟨some ⟨bb, bo + gk, none⟩, c' - gk, [], ini ++ [⟨2, f, ((d.length : Int) + (gk : Int)), d ++ bs'.take gk⟩], _, _, _, rfl, by omega, BS.nil _ _ _, hT7, (by have h9 := HRR.out.1; rw [tells_chunk ini f d.length gk d bs' (by rw [HRR.out.2.2.2]; exact k2) k3, List.drop_of_length_le (by rw [HRR.out.2.2.2]; exact Nat.le_refl _)] at h9; exact h9), (HRR.out.2.1.snoc (by simp only [List.length_append, List.length_take]; rw [HRR.out.2.2.2]; omega)), (by have := HRR.out.2.2.1; simp only [List.length_append, List.length_cons, List.length_nil] at this ⊢; omega), (hbw).trans (hb5.trans hb7), (hsp).trans (hs5.trans hs7)⟩
        · obtain ⟨g', Al, cl, hA, hn1, hnc, hgl, hgb, hc0, s0, s1, s2, s3, hfr, hown⟩ := hT.last_
          obtain rfl : g = g' := by injection hA with hA; injection hA
          clear hn1 hA s0 s1
          simp only at s2 s3 hown
          obtain ⟨k, hk⟩ : ∃ k, k = 128 - d.length := ⟨_, rfl⟩
          have k1 : 1 ≤ k := by omega
          have k2 : k ≤ gk := by omega
          have k3 : d.length + k ≤ 128 := by omega
          have k4 : k ≤ c' := by omega
          have hw1 : IntKind.i64.wrap ((128 : Int) - (d.length : Int)) = (k : Int) := by rw [IntKind.wrap_i64]; omega
          have z3 : decide ((gk : Int) < (k : Int)) = false := by simp; omega
          have z4 : decide (gk < k) = false := by simp; omega
          have hw2 : IntKind.i64.wrap ((d.length : Int) + (k : Int)) = (d.length : Int) + (k : Int) := by rw [IntKind.wrap_i64]; omega
          obtain ⟨bb, bo, rfl, _⟩ := hbs.2 hpos
          have hck : ¬ c' = k := by omega
          have hbk : BS wo B (some ⟨bb, bo, none⟩) k (bs'.take k) := hbs.take k2
          have hbd : BS wo B (some ⟨bb, bo + k, none⟩) (gk - k) (bs'.drop k) := hbs.drop k2
          have hnd : ∀ j, (Value.slice Al d.length cl).ownBlock = some j → j ≠ g := fun j hj => by
            obtain ⟨_, _, cur, fr, hh⟩ := own_block_lt hown j hj
            obtain ⟨_, _, vs', r3, _⟩ := hT
            obtain ⟨_, _, cur', fr', hh'⟩ := row_block r3 g rfl
            exact row_ne hh hh' (by decide)
          have hfix : ∀ w4, World.grownBy (wo.drew) w4 (Value.slice Al d.length cl).ownBlock → w4.cell? ⟨g, ini.length * 4 + 3, none⟩ = some (.slice Al d.length cl) ∧ w4.frozen? ⟨g, ini.length * 4 + 3, none⟩ = false := fun w4 hg => by
            have := hg.block g hgl (fun e => hnd g e.symm rfl)
            exact ⟨(World.cell?_of_block (a := ⟨g, ini.length * 4 + 3, none⟩) this).trans s3, (World.frozen?_of_block (a := ⟨g, ini.length * 4 + 3, none⟩) this).trans (hfr _)⟩
          have HFX := Lib.hid hfix
          have hownD : U.Own (wo.drew) base 5 Al d.length cl d := hown.drew
          have hbkD : BS (wo.drew) B (some ⟨bb, bo, none⟩) k (bs'.take k) := hbk
          have hlen5 : d.length + k ≤ 140737488355328 := by omega
          have hbzD : base ≤ (wo.drew).heap.size := by
            have h1 := Blk.lt hT.1
            have h2 := hT.2.1
            have h3 : (wo.drew).heap.size = wo.heap.size := rfl
            omega
          have HK := Lib.hid (And.intro trivial (And.intro trivial (And.intro hbd (And.intro trivial hfr))))
          have hfr2 := hfr (ini.length * 4 + 3)
          clear hk hbd hnd hfix hfr
          go_wp2_with (go_at_call 108; refine hl1.mono ?_; rintro e w1 ⟨rfl, rfl⟩)
          go_region_law (refine step_app2 bt rfl (.tmp 44) (.tmp 48) rfl base Al d.length cl d rfl hownD _ _ _ _ (bs'.take k) rfl hbkD hlen5 hbzD ?_; intro A4 c4 w4 hown4 hg4 hw4; have e0 := (HFX.out w4 hg4).1; have e1 := (HFX.out w4 hg4).2)
          all_goals
            have hT5 := Tr.setData (w := wo.drew) hT rfl s3 hg4 hown4 hw4
            have hs5 : Spare t wo (w4.setCell ⟨g, ini.length * 4 + 3, none⟩ (.slice A4 (d.length + k) c4)) := by
              obtain ⟨_, _, vs', r3, _⟩ := hT
              obtain ⟨_, _, cur', fr', hh'⟩ := row_block r3 g rfl
              have hh4 : w4.heap[g]? = some (.cells cur' 68 fr') := (hg4.block g hgl (fun e => by
                obtain ⟨_, _, cur, fr, hh⟩ := own_block_lt hown g e.symm
                exact absurd rfl (row_ne hh hh' (by decide)))).trans hh'
              refine Spare.trans (b := w4) (Spare.grown (w := wo.drew) hg4 fun j hj => ?_) (Spare.grown (grown_setC w4 g _ _) fun j hj => ?_)
              · obtain ⟨_, _, cur, fr, hh⟩ := own_block_lt hown j hj
                exact .inr ⟨cur, _, fr, hh, .inr rfl⟩
              · injection hj with hj
                subst hj
                exact .inr ⟨cur', _, fr', hh4, .inl rfl⟩
            have hb5 : Below B wo (w4.setCell ⟨g, ini.length * 4 + 3, none⟩ (.slice A4 (d.length + k) c4)) := by
              have z1 : B ≤ (wo.drew).heap.size := Nat.le_trans hB hbzD
              have z2 := (below_drewN (Below.refl B wo) 1).grown hg4 z1 (fun j hj => by
                obtain ⟨_, h, _⟩ := own_block_lt hown j hj
                omega)
              exact z2.grown (grown_setC w4 g _ _) (Nat.le_trans z1 hg4.size) (fun j hj => by injection hj; omega)
            obtain ⟨w5, hw5⟩ : ∃ w5, w5 = w4.setCell ⟨g, ini.length * 4 + 3, none⟩ (.slice A4 (d.length + k) c4) := ⟨_, rfl⟩
            rw [← hw5] at hT5 hs5 hb5 ⊢
            obtain ⟨g'', Al5, cl5, hA5, hn5, _, hgl5, _, hc5, _, _, t2, _, hfr5, _⟩ := hT5.last_
            obtain rfl : g = g'' := by injection hA5 with hA5; injection hA5
            simp only at t2
            have hfr6 := hfr5 (ini.length * 4 + 2)
            clear hw5 hown4 hg4 hw4 e0 e1 s2 s3 hA5 hn5 hc5 hfr5
            go_wp2_with fail
            have hT7 := hT5.setLen rfl ((d.length : Int) + (k : Int))
            have hs7 : Spare t w5 (w5.setCell ⟨g, ini.length * 4 + 2, none⟩ (.int .i64 ((d.length : Int) + (k : Int)))) := by
              obtain ⟨_, _, vs', r3, _⟩ := hT5
              obtain ⟨_, _, cur', fr', hh'⟩ := row_block r3 g rfl
              exact Spare.grown (grown_setC w5 g _ _) fun j hj => by injection hj with hj; subst hj; exact .inr ⟨cur', _, fr', hh', .inl rfl⟩
            have hb7 : Below B w5 (w5.setCell ⟨g, ini.length * 4 + 2, none⟩ (.int .i64 ((d.length : Int) + (k : Int)))) := (Below.refl B w5).grown (grown_setC w5 g _ _) (by omega) (fun j hj => by injection hj; omega)
            go_roundg (gk - k)
            case measure => omega
            case rel => exact ⟨some ⟨bb, bo + k, none⟩, c' - k, bs'.drop k, ini ++ [⟨2, f, ((d.length : Int) + (k : Int)), d ++ bs'.take k⟩], _, _, _, rfl, by omega, HK.out.2.2.1.below (hb5.trans hb7), hT7, (by rw [← tells_chunk ini f d.length k d bs' (by rw [HRR.out.2.2.2]; exact k2) k3]; exact HRR.out.1), (HRR.out.2.1.snoc (by simp only [List.length_append, List.length_take]; rw [HRR.out.2.2.2]; omega)), (by have := HRR.out.2.2.1; simp only [List.length_append, List.length_cons, List.length_nil] at this ⊢; omega), (hbw).trans (hb5.trans hb7), (hsp).trans (hs5.trans hs7)⟩
      · have hsh : Shut l := fun x hx hc => hop (by
          rcases last_cases l with rfl | ⟨ini, y, rfl⟩
          · simp at hx
          · rw [List.getLast?_concat] at hx
            injection hx with hx
            subst hx
            have := hL y (by simp) hc.1
            obtain ⟨yk, yf, yl, yd⟩ := y
            simp only at hc this
            obtain ⟨rfl, h2⟩ := hc
            exact ⟨ini, yf, yd.length, yd, by rw [this.1], by omega⟩)
        have hlast : Calls Tryd.prog 108 #[.pointer (some ⟨t, 0, none⟩), .int .i64 2] wo (fun e w' => e = .returned (.pointer none) ∧ wo = w') ∨
            ∃ g j, g < wo.heap.size ∧ wo.cell? ⟨g, j + 2, none⟩ = some (.int .i64 128) ∧ Calls Tryd.prog 108 #[.pointer (some ⟨t, 0, none⟩), .int .i64 2] wo fun e w' => e = .returned (.pointer (some ⟨g, j, none⟩)) ∧ wo = w' := by
          rcases last_cases l with rfl | ⟨ini, y, rfl⟩
          · exact .inl (tlast_nil base t n c wo A 2 hT0)
          · by_cases hk : y.k = 2
            · obtain ⟨g, Al, cl, rfl, hn1, hnc, hgl, hgb, hc0, s0, s1, s2, s3, hfr, hown⟩ := hT0.last_
              have h1 := hL y (by simp) hk
              have h2 : ¬ y.l < 128 := fun h => hsh y List.getLast?_concat ⟨hk, h⟩
              have h3 : y.l = 128 := by omega
              rw [h3] at s2
              exact .inr ⟨g, ini.length * 4, hgl, s2, tlast_yes base t g n c wo ini y 2 hT0 hk hn6⟩
            · exact .inl (tlast_no base t n c wo A ini y 2 hT0 hk hn6)
        have hR2 := (tells_fresh (l := l) hsh (by omega : 0 < bs'.length)).symm.trans hR
        have hL2 : Lits (l ++ [⟨2, 0, 0, []⟩]) := fun x hx hk => by
          rcases List.mem_append.1 hx with hx | hx
          · exact hL x hx hk
          · simp only [List.mem_singleton] at hx
            subst hx
            exact ⟨rfl, by simp⟩
        have hq1 : (n + 1) * 48 ≤ 140737488355328 := by omega
        have hq2 : n + 1 ≤ maxLen := by unfold maxLen; omega
        have c0 : wo.cell? ⟨t, 0, none⟩ = some (.slice A n c) := Blk.cell hT0.1 0
        obtain ⟨h1, h2, vs, h3, h4, h5, h6⟩ := hT0
        have HV := Lib.hid (app_facts base t n c wo A vs h1 h2 h3 2 0 0)
        have HN := Lib.hid (row_not_t base t n c wo A vs h1 h3)
        have HD := Lib.hid (fun w2 A2 c2 hg ho => app_done base t n c wo A l vs h1 h2 h3 h4 h5 h6 2 0 0 0 (w2 := w2) (A2 := A2) (c2 := c2) hg ho B hBB)
        obtain ⟨ini, hini⟩ : ∃ ini, ini = l := ⟨_, rfl⟩
        obtain ⟨f, hf⟩ : ∃ f : Int, f = 0 := ⟨_, rfl⟩
        obtain ⟨d, hd⟩ : ∃ d : List UInt8, d = [] := ⟨_, rfl⟩
        have hx : (⟨2, 0, 0, []⟩ : Gr.Stp) = ⟨2, f, (d.length : Int), d⟩ := by rw [hf, hd]; rfl
        have hq : d.length < 128 := by rw [hd]; decide
        have HRR := Lib.hid (show tells (ini ++ [⟨2, f, (d.length : Int), d⟩]) bs' = R ∧ Lits (ini ++ [⟨2, f, (d.length : Int), d⟩]) ∧ ini.length + gk ≤ 1000000 ∧ bs'.length = gk by rw [← hx, hini]; exact ⟨hR2, hL2, hlm, hblen⟩)
        have HX := Lib.hid (And.intro hx hini)
        clear hop hsh hR2 hL2 hR hL hlm hblen h1 h2 h3 h4 h5 h6 hx hini hf hd hnl
        rcases hlast with hl1 | ⟨g1, j1, hg1, s1, hl1⟩
        · go_wp2_with (first
            | (go_at_call 108; refine hl1.mono ?_; rintro e w1 ⟨rfl, rfl⟩)
            | (at_builtin; refine wpList_app4 Tryd.underlying65 infoS rfl rfl (.tmp 24) (.tmp 26) rfl base A n c vs rfl (HV.out.1 0) ⟨wo.heap.size, 0, none⟩ 1 1 (stpCells ⟨2, 0, 0, []⟩ none 0) rfl rfl (HV.out.2.1 0) HO.out hq1 hq2 (HV.out.2.2.1 0) ?_; intro A2 c2 w2 hown2 hg2 _; have hk2 := Blk.grown (HV.out.2.2.2 0) hg2 HN.out; have e0 := hk2.cell 0; have e1 := hk2.frozen 0; simp at e0))
          obtain ⟨hT, hb3, hs3⟩ := HD.out w2 A2 c2 hg2 hown2
          rw [HX.out.1, ← HX.out.2] at hT
          obtain ⟨w3, hw3⟩ : ∃ w3, w3 = w2.setCell ⟨t, 0, none⟩ (.slice A2 (n + 1) c2) := ⟨_, rfl⟩
          rw [← hw3] at hT hb3 hs3 ⊢
          obtain ⟨g, rfl⟩ : ∃ g, A2 = some ⟨g, 0, none⟩ := by obtain ⟨g, _, _, h, _⟩ := hT.last_; exact ⟨g, h⟩
          have hl2 := tlast_yes base t g (n + 1) c2 w3 ini ⟨2, f, (d.length : Int), d⟩ 2 hT rfl (by have := HRR.out.2.2.1; have := hT.len; simp at this; omega)
          have hbs3 := hbs.below hb3
          clear hw3 hown2 hg2 hk2 e0 e1 hbs hl1
          rcases Nat.lt_trichotomy gk (128 - d.length) with hsmall | hsmall | hsmall
          · by_cases hcc : c' = gk
            · obtain ⟨g', Al, cl, hA, hn1, hnc, hgl, hgb, hc0, s0, s1, s2, s3, hfr, hown⟩ := hT.last_
              obtain rfl : g = g' := by injection hA with hA; injection hA
              clear hn1 hA s0 s1
              simp only at s2 s3 hown
              have k1 : 1 ≤ gk := by omega
              have k2 : gk ≤ gk := by omega
              have k3 : d.length + gk ≤ 128 := by omega
              have k4 : gk ≤ c' := by omega
              have hw1 : IntKind.i64.wrap ((128 : Int) - (d.length : Int)) = (128 : Int) - (d.length : Int) := by rw [IntKind.wrap_i64]; omega
              have z3 : decide ((gk : Int) < (128 : Int) - (d.length : Int)) = true := by simp; omega
              have hw2 : IntKind.i64.wrap ((d.length : Int) + (gk : Int)) = (d.length : Int) + (gk : Int) := by rw [IntKind.wrap_i64]; omega
              obtain ⟨bb, bo, rfl, _⟩ := hbs3.2 hpos
              obtain rfl : gk = c' := by omega
              have hbk : BS w3 B (some ⟨bb, bo, none⟩) gk (bs'.take gk) := hbs3.take k2
              have hbd : BS w3 B (some ⟨bb, bo + gk, none⟩) (gk - gk) (bs'.drop gk) := hbs3.drop k2
              have hnd : ∀ j, (Value.slice Al d.length cl).ownBlock = some j → j ≠ g := fun j hj => by
                obtain ⟨_, _, cur, fr, hh⟩ := own_block_lt hown j hj
                obtain ⟨_, _, vs', r3, _⟩ := hT
                obtain ⟨_, _, cur', fr', hh'⟩ := row_block r3 g rfl
                exact row_ne hh hh' (by decide)
              have hfix : ∀ w4, World.grownBy (w3.drew) w4 (Value.slice Al d.length cl).ownBlock → w4.cell? ⟨g, ini.length * 4 + 3, none⟩ = some (.slice Al d.length cl) ∧ w4.frozen? ⟨g, ini.length * 4 + 3, none⟩ = false := fun w4 hg => by
                have := hg.block g hgl (fun e => hnd g e.symm rfl)
                exact ⟨(World.cell?_of_block (a := ⟨g, ini.length * 4 + 3, none⟩) this).trans s3, (World.frozen?_of_block (a := ⟨g, ini.length * 4 + 3, none⟩) this).trans (hfr _)⟩
              have HFX := Lib.hid hfix
              have hownD : U.Own (w3.drew) base 5 Al d.length cl d := hown.drew
              have hbkD : BS (w3.drew) B (some ⟨bb, bo, none⟩) gk (bs'.take gk) := hbk
              have hlen5 : d.length + gk ≤ 140737488355328 := by omega
              have hbzD : base ≤ (w3.drew).heap.size := by
                have h1 := Blk.lt hT.1
                have h2 := hT.2.1
                have h3 : (w3.drew).heap.size = w3.heap.size := rfl
                omega
              have HK := Lib.hid (And.intro trivial (And.intro trivial (And.intro hbd (And.intro trivial hfr))))
              have hfr2 := hfr (ini.length * 4 + 3)
              clear hbd hnd hfix hfr
              go_wp2_with (go_at_call 108; refine hl2.mono ?_; rintro e w1 ⟨rfl, rfl⟩)
              go_region_law (refine step_app2 bt rfl (.tmp 44) (.tmp 48) rfl base Al d.length cl d rfl hownD _ _ _ _ (bs'.take gk) rfl hbkD hlen5 hbzD ?_; intro A4 c4 w4 hown4 hg4 hw4; have e0 := (HFX.out w4 hg4).1; have e1 := (HFX.out w4 hg4).2)
              all_goals
                have hT5 := Tr.setData (w := w3.drew) hT rfl s3 hg4 hown4 hw4
                have hs5 : Spare t w3 (w4.setCell ⟨g, ini.length * 4 + 3, none⟩ (.slice A4 (d.length + gk) c4)) := by
                  obtain ⟨_, _, vs', r3, _⟩ := hT
                  obtain ⟨_, _, cur', fr', hh'⟩ := row_block r3 g rfl
                  have hh4 : w4.heap[g]? = some (.cells cur' 68 fr') := (hg4.block g hgl (fun e => by
                    obtain ⟨_, _, cur, fr, hh⟩ := own_block_lt hown g e.symm
                    exact absurd rfl (row_ne hh hh' (by decide)))).trans hh'
                  refine Spare.trans (b := w4) (Spare.grown (w := w3.drew) hg4 fun j hj => ?_) (Spare.grown (grown_setC w4 g _ _) fun j hj => ?_)
                  · obtain ⟨_, _, cur, fr, hh⟩ := own_block_lt hown j hj
                    exact .inr ⟨cur, _, fr, hh, .inr rfl⟩
                  · injection hj with hj
                    subst hj
                    exact .inr ⟨cur', _, fr', hh4, .inl rfl⟩
                have hb5 : Below B w3 (w4.setCell ⟨g, ini.length * 4 + 3, none⟩ (.slice A4 (d.length + gk) c4)) := by
                  have z1 : B ≤ (w3.drew).heap.size := Nat.le_trans hB hbzD
                  have z2 := (below_drewN (Below.refl B w3) 1).grown hg4 z1 (fun j hj => by
                    obtain ⟨_, h, _⟩ := own_block_lt hown j hj
                    omega)
                  exact z2.grown (grown_setC w4 g _ _) (Nat.le_trans z1 hg4.size) (fun j hj => by injection hj; omega)
                obtain ⟨w5, hw5⟩ : ∃ w5, w5 = w4.setCell ⟨g, ini.length * 4 + 3, none⟩ (.slice A4 (d.length + gk) c4) := ⟨_, rfl⟩
                rw [← hw5] at hT5 hs5 hb5 ⊢
                obtain ⟨g'', Al5, cl5, hA5, hn5, _, hgl5, _, hc5, _, _, t2, _, hfr5, _⟩ := hT5.last_
                obtain rfl : g = g'' := by injection hA5 with hA5; injection hA5
                simp only at t2
                have hfr6 := hfr5 (ini.length * 4 + 2)
                clear hw5 hown4 hg4 hw4 e0 e1 s2 s3 hA5 hn5 hc5 hfr5
                go_wp2_with fail
                have hT7 := hT5.setLen rfl ((d.length : Int) + (gk : Int))
                have hs7 : Spare t w5 (w5.setCell ⟨g, ini.length * 4 + 2, none⟩ (.int .i64 ((d.length : Int) + (gk : Int)))) := by
                  obtain ⟨_, _, vs', r3, _⟩ := hT5
                  obtain ⟨_, _, cur', fr', hh'⟩ := row_block r3 g rfl
                  exact Spare.grown (grown_setC w5 g _ _) fun j hj => by injection hj with hj; subst hj; exact .inr ⟨cur', _, fr', hh', .inl rfl⟩
                have hb7 : Below B w5 (w5.setCell ⟨g, ini.length * 4 + 2, none⟩ (.int .i64 ((d.length : Int) + (gk : Int)))) := (Below.refl B w5).grown (grown_setC w5 g _ _) (by omega) (fun j hj => by injection hj; omega)
                go_roundg 0
                case measure => omega
                case rel => exact ⟨some ⟨bb, bo, none⟩, 0, [], ini ++ [⟨2, f, ((d.length : Int) + (gk : Int)), d ++ bs'.take gk⟩], _, _, _, rfl, by omega, BS.nil _ _ _, hT7, (by have h9 := HRR.out.1; rw [tells_chunk ini f d.length gk d bs' (by rw [HRR.out.2.2.2]; exact k2) k3, List.drop_of_length_le (by rw [HRR.out.2.2.2]; exact Nat.le_refl _)] at h9; exact h9), (HRR.out.2.1.snoc (by simp only [List.length_append, List.length_take]; rw [HRR.out.2.2.2]; omega)), (by have := HRR.out.2.2.1; simp only [List.length_append, List.length_cons, List.length_nil] at this ⊢; omega), ((hbw.trans hb3)).trans (hb5.trans hb7), ((hsp.trans hs3)).trans (hs5.trans hs7)⟩
            · obtain ⟨g', Al, cl, hA, hn1, hnc, hgl, hgb, hc0, s0, s1, s2, s3, hfr, hown⟩ := hT.last_
              obtain rfl : g = g' := by injection hA with hA; injection hA
              clear hn1 hA s0 s1
              simp only at s2 s3 hown
              have k1 : 1 ≤ gk := by omega
              have k2 : gk ≤ gk := by omega
              have k3 : d.length + gk ≤ 128 := by omega
              have k4 : gk ≤ c' := by omega
              have hw1 : IntKind.i64.wrap ((128 : Int) - (d.length : Int)) = (128 : Int) - (d.length : Int) := by rw [IntKind.wrap_i64]; omega
              have z3 : decide ((gk : Int) < (128 : Int) - (d.length : Int)) = true := by simp; omega
              have hw2 : IntKind.i64.wrap ((d.length : Int) + (gk : Int)) = (d.length : Int) + (gk : Int) := by rw [IntKind.wrap_i64]; omega
              obtain ⟨bb, bo, rfl, _⟩ := hbs3.2 hpos
              have hck : ¬ c' = gk := hcc
              have hbk : BS w3 B (some ⟨bb, bo, none⟩) gk (bs'.take gk) := hbs3.take k2
              have hbd : BS w3 B (some ⟨bb, bo + gk, none⟩) (gk - gk) (bs'.drop gk) := hbs3.drop k2
              have hnd : ∀ j, (Value.slice Al d.length cl).ownBlock = some j → j ≠ g := fun j hj => by
                obtain ⟨_, _, cur, fr, hh⟩ := own_block_lt hown j hj
                obtain ⟨_, _, vs', r3, _⟩ := hT
                obtain ⟨_, _, cur', fr', hh'⟩ := row_block r3 g rfl
                exact row_ne hh hh' (by decide)
              have hfix : ∀ w4, World.grownBy (w3.drew) w4 (Value.slice Al d.length cl).ownBlock → w4.cell? ⟨g, ini.length * 4 + 3, none⟩ = some (.slice Al d.length cl) ∧ w4.frozen? ⟨g, ini.length * 4 + 3, none⟩ = false := fun w4 hg => by
                have := hg.block g hgl (fun e => hnd g e.symm rfl)
                exact ⟨(World.cell?_of_block (a := ⟨g, ini.length * 4 + 3, none⟩) this).trans s3, (World.frozen?_of_block (a := ⟨g, ini.length * 4 + 3, none⟩) this).trans (hfr _)⟩
              have HFX := Lib.hid hfix
              have hownD : U.Own (w3.drew) base 5 Al d.length cl d := hown.drew
              have hbkD : BS (w3.drew) B (some ⟨bb, bo, none⟩) gk (bs'.take gk) := hbk
              have hlen5 : d.length + gk ≤ 140737488355328 := by omega
              have hbzD : base ≤ (w3.drew).heap.size := by
                have h1 := Blk.lt hT.1
                have h2 := hT.2.1
                have h3 : (w3.drew).heap.size = w3.heap.size := rfl
                omega
              have HK := Lib.hid (And.intro trivial (And.intro trivial (And.intro hbd (And.intro trivial hfr))))
              have hfr2 := hfr (ini.length * 4 + 3)
              clear hbd hnd hfix hfr
              go_wp2_with (go_at_call 108; refine hl2.mono ?_; rintro e w1 ⟨rfl, rfl⟩)
              go_region_law (refine step_app2 bt rfl (.tmp 44) (.tmp 48) rfl base Al d.length cl d rfl hownD _ _ _ _ (bs'.take gk) rfl hbkD hlen5 hbzD ?_; intro A4 c4 w4 hown4 hg4 hw4; have e0 := (HFX.out w4 hg4).1; have e1 := (HFX.out w4 hg4).2)
              all_goals
                have hT5 := Tr.setData (w := w3.drew) hT rfl s3 hg4 hown4 hw4
                have hs5 : Spare t w3 (w4.setCell ⟨g, ini.length * 4 + 3, none⟩ (.slice A4 (d.length + gk) c4)) := by
                  obtain ⟨_, _, vs', r3, _⟩ := hT
                  obtain ⟨_, _, cur', fr', hh'⟩ := row_block r3 g rfl
                  have hh4 : w4.heap[g]? = some (.cells cur' 68 fr') := (hg4.block g hgl (fun e => by
                    obtain ⟨_, _, cur, fr, hh⟩ := own_block_lt hown g e.symm
                    exact absurd rfl (row_ne hh hh' (by decide)))).trans hh'
                  refine Spare.trans (b := w4) (Spare.grown (w := w3.drew) hg4 fun j hj => ?_) (Spare.grown (grown_setC w4 g _ _) fun j hj => ?_)
                  · obtain ⟨_, _, cur, fr, hh⟩ := own_block_lt hown j hj
                    exact .inr ⟨cur, _, fr, hh, .inr rfl⟩
                  · injection hj with hj
                    subst hj
                    exact .inr ⟨cur', _, fr', hh4, .inl rfl⟩
                have hb5 : Below B w3 (w4.setCell ⟨g, ini.length * 4 + 3, none⟩ (.slice A4 (d.length + gk) c4)) := by
                  have z1 : B ≤ (w3.drew).heap.size := Nat.le_trans hB hbzD
                  have z2 := (below_drewN (Below.refl B w3) 1).grown hg4 z1 (fun j hj => by
                    obtain ⟨_, h, _⟩ := own_block_lt hown j hj
                    omega)
                  exact z2.grown (grown_setC w4 g _ _) (Nat.le_trans z1 hg4.size) (fun j hj => by injection hj; omega)
                obtain ⟨w5, hw5⟩ : ∃ w5, w5 = w4.setCell ⟨g, ini.length * 4 + 3, none⟩ (.slice A4 (d.length + gk) c4) := ⟨_, rfl⟩
                rw [← hw5] at hT5 hs5 hb5 ⊢
                obtain ⟨g'', Al5, cl5, hA5, hn5, _, hgl5, _, hc5, _, _, t2, _, hfr5, _⟩ := hT5.last_
                obtain rfl : g = g'' := by injection hA5 with hA5; injection hA5
                simp only at t2
                have hfr6 := hfr5 (ini.length * 4 + 2)
                clear hw5 hown4 hg4 hw4 e0 e1 s2 s3 hA5 hn5 hc5 hfr5
                go_wp2_with fail
                have hT7 := hT5.setLen rfl ((d.length : Int) + (gk : Int))
                have hs7 : Spare t w5 (w5.setCell ⟨g, ini.length * 4 + 2, none⟩ (.int .i64 ((d.length : Int) + (gk : Int)))) := by
                  obtain ⟨_, _, vs', r3, _⟩ := hT5
                  obtain ⟨_, _, cur', fr', hh'⟩ := row_block r3 g rfl
                  exact Spare.grown (grown_setC w5 g _ _) fun j hj => by injection hj with hj; subst hj; exact .inr ⟨cur', _, fr', hh', .inl rfl⟩
                have hb7 : Below B w5 (w5.setCell ⟨g, ini.length * 4 + 2, none⟩ (.int .i64 ((d.length : Int) + (gk : Int)))) := (Below.refl B w5).grown (grown_setC w5 g _ _) (by omega) (fun j hj => by injection hj; omega)
                go_roundg 0
                case measure => omega
                case rel => exact ⟨some ⟨bb, bo + gk, none⟩, c' - gk, [], ini ++ [⟨2, f, ((d.length : Int) + (gk : Int)), d ++ bs'.take gk⟩], _, _, _, rfl, by omega, BS.nil _ _ _, hT7, (by have h9 := HRR.out.1; rw [tells_chunk ini f d.length gk d bs' (by rw [HRR.out.2.2.2]; exact k2) k3, List.drop_of_length_le (by rw [HRR.out.2.2.2]; exact Nat.le_refl _)] at h9; exact h9), (HRR.out.2.1.snoc (by simp only [List.length_append, List.length_take]; rw [HRR.out.2.2.2]; omega)), (by have := HRR.out.2.2.1; simp only [List.length_append, List.length_cons, List.length_nil] at this ⊢; omega), ((hbw.trans hb3)).trans (hb5.trans hb7), ((hsp.trans hs3)).trans (hs5.trans hs7)⟩
          · by_cases hcc : c' = gk
            · obtain ⟨g', Al, cl, hA, hn1, hnc, hgl, hgb, hc0, s0, s1, s2, s3, hfr, hown⟩ := hT.last_
              obtain rfl : g = g' := by injection hA with hA; injection hA
              clear hn1 hA s0 s1
              simp only at s2 s3 hown
              have k1 : 1 ≤ gk := by omega
              have k2 : gk ≤ gk := by omega
              have k3 : d.length + gk ≤ 128 := by omega
              have k4 : gk ≤ c' := by omega
              have hw1 : IntKind.i64.wrap ((128 : Int) - (d.length : Int)) = (gk : Int) := by rw [IntKind.wrap_i64]; omega
              have z3 : decide ((gk : Int) < (gk : Int)) = false := by simp
              have z4 : decide (gk < gk) = false := by simp
              have hw2 : IntKind.i64.wrap ((d.length : Int) + (gk : Int)) = (d.length : Int) + (gk : Int) := by rw [IntKind.wrap_i64]; omega
              obtain ⟨bb, bo, rfl, _⟩ := hbs3.2 hpos
              obtain rfl : gk = c' := by omega
              have hbk : BS w3 B (some ⟨bb, bo, none⟩) gk (bs'.take gk) := hbs3.take k2
              have hbd : BS w3 B (some ⟨bb, bo + gk, none⟩) (gk - gk) (bs'.drop gk) := hbs3.drop k2
              have hnd : ∀ j, (Value.slice Al d.length cl).ownBlock = some j → j ≠ g := fun j hj => by
                obtain ⟨_, _, cur, fr, hh⟩ := own_block_lt hown j hj
                obtain ⟨_, _, vs', r3, _⟩ := hT
                obtain ⟨_, _, cur', fr', hh'⟩ := row_block r3 g rfl
                exact row_ne hh hh' (by decide)
              have hfix : ∀ w4, World.grownBy (w3.drew) w4 (Value.slice Al d.length cl).ownBlock → w4.cell? ⟨g, ini.length * 4 + 3, none⟩ = some (.slice Al d.length cl) ∧ w4.frozen? ⟨g, ini.length * 4 + 3, none⟩ = false := fun w4 hg => by
                have := hg.block g hgl (fun e => hnd g e.symm rfl)
                exact ⟨(World.cell?_of_block (a := ⟨g, ini.length * 4 + 3, none⟩) this).trans s3, (World.frozen?_of_block (a := ⟨g, ini.length * 4 + 3, none⟩) this).trans (hfr _)⟩
              have HFX := Lib.hid hfix
              have hownD : U.Own (w3.drew) base 5 Al d.length cl d := hown.drew
              have hbkD : BS (w3.drew) B (some ⟨bb, bo, none⟩) gk (bs'.take gk) := hbk
              have hlen5 : d.length + gk ≤ 140737488355328 := by omega
              have hbzD : base ≤ (w3.drew).heap.size := by
                have h1 := Blk.lt hT.1
                have h2 := hT.2.1
                have h3 : (w3.drew).heap.size = w3.heap.size := rfl
                omega
              have HK := Lib.hid (And.intro trivial (And.intro trivial (And.intro hbd (And.intro trivial hfr))))
              have hfr2 := hfr (ini.length * 4 + 3)
              clear hbd hnd hfix hfr hsmall
              go_wp2_with (go_at_call 108; refine hl2.mono ?_; rintro e w1 ⟨rfl, rfl⟩)
              go_region_law (refine step_app2 bt rfl (.tmp 44) (.tmp 48) rfl base Al d.length cl d rfl hownD _ _ _ _ (bs'.take gk) rfl hbkD hlen5 hbzD ?_; intro A4 c4 w4 hown4 hg4 hw4; have e0 := (HFX.out w4 hg4).1; have e1 := (HFX.out w4 hg4).2)
              all_goals
                have hT5 := Tr.setData (w := w3.drew) hT rfl s3 hg4 hown4 hw4
                have hs5 : Spare t w3 (w4.setCell ⟨g, ini.length * 4 + 3, none⟩ (.slice A4 (d.length + gk) c4)) := by
                  obtain ⟨_, _, vs', r3, _⟩ := hT
                  obtain ⟨_, _, cur', fr', hh'⟩ := row_block r3 g rfl
                  have hh4 : w4.heap[g]? = some (.cells cur' 68 fr') := (hg4.block g hgl (fun e => by
                    obtain ⟨_, _, cur, fr, hh⟩ := own_block_lt hown g e.symm
                    exact absurd rfl (row_ne hh hh' (by decide)))).trans hh'
                  refine Spare.trans (b := w4) (Spare.grown (w := w3.drew) hg4 fun j hj => ?_) (Spare.grown (grown_setC w4 g _ _) fun j hj => ?_)
                  · obtain ⟨_, _, cur, fr, hh⟩ := own_block_lt hown j hj
                    exact .inr ⟨cur, _, fr, hh, .inr rfl⟩
                  · injection hj with hj
                    subst hj
                    exact .inr ⟨cur', _, fr', hh4, .inl rfl⟩
                have hb5 : Below B w3 (w4.setCell ⟨g, ini.length * 4 + 3, none⟩ (.slice A4 (d.length + gk) c4)) := by
                  have z1 : B ≤ (w3.drew).heap.size := Nat.le_trans hB hbzD
                  have z2 := (below_drewN (Below.refl B w3) 1).grown hg4 z1 (fun j hj => by
                    obtain ⟨_, h, _⟩ := own_block_lt hown j hj
                    omega)
                  exact z2.grown (grown_setC w4 g _ _) (Nat.le_trans z1 hg4.size) (fun j hj => by injection hj; omega)
                obtain ⟨w5, hw5⟩ : ∃ w5, w5 = w4.setCell ⟨g, ini.length * 4 + 3, none⟩ (.slice A4 (d.length + gk) c4) := ⟨_, rfl⟩
                rw [← hw5] at hT5 hs5 hb5 ⊢
                obtain ⟨g'', Al5, cl5, hA5, hn5, _, hgl5, _, hc5, _, _, t2, _, hfr5, _⟩ := hT5.last_
                obtain rfl : g = g'' := by injection hA5 with hA5; injection hA5
                simp only at t2
                have hfr6 := hfr5 (ini.length * 4 + 2)
                clear hw5 hown4 hg4 hw4 e0 e1 s2 s3 hA5 hn5 hc5 hfr5
                go_wp2_with fail
                have hT7 := hT5.setLen rfl ((d.length : Int) + (gk : Int))
                have hs7 : Spare t w5 (w5.setCell ⟨g, ini.length * 4 + 2, none⟩ (.int .i64 ((d.length : Int) + (gk : Int)))) := by
                  obtain ⟨_, _, vs', r3, _⟩ := hT5
                  obtain ⟨_, _, cur', fr', hh'⟩ := row_block r3 g rfl
                  exact Spare.grown (grown_setC w5 g _ _) fun j hj => by injection hj with hj; subst hj; exact .inr ⟨cur', _, fr', hh', .inl rfl⟩
                have hb7 : Below B w5 (w5.setCell ⟨g, ini.length * 4 + 2, none⟩ (.int .i64 ((d.length : Int) + (gk : Int)))) := (Below.refl B w5).grown (grown_setC w5 g _ _) (by omega) (fun j hj => by injection hj; omega)
                go_roundg 0
                case measure => omega
                case rel => exact ⟨some ⟨bb, bo, none⟩, 0, [], ini ++ [⟨2, f, ((d.length : Int) + (gk : Int)), d ++ bs'.take gk⟩], _, _, _, rfl, by omega, BS.nil _ _ _, hT7, (by have h9 := HRR.out.1; rw [tells_chunk ini f d.length gk d bs' (by rw [HRR.out.2.2.2]; exact k2) k3, List.drop_of_length_le (by rw [HRR.out.2.2.2]; exact Nat.le_refl _)] at h9; exact h9), (HRR.out.2.1.snoc (by simp only [List.length_append, List.length_take]; rw [HRR.out.2.2.2]; omega)), (by have := HRR.out.2.2.1; simp only [List.length_append, List.length_cons, List.length_nil] at this ⊢; omega), ((hbw.trans hb3)).trans (hb5.trans hb7), ((hsp.trans hs3)).trans (hs5.trans hs7)⟩
            · obtain ⟨g', Al, cl, hA, hn1, hnc, hgl, hgb, hc0, s0, s1, s2, s3, hfr, hown⟩ := hT.last_
              obtain rfl : g = g' := by injection hA with hA; injection hA
              clear hn1 hA s0 s1
              simp only at s2 s3 hown
              have k1 : 1 ≤ gk := by omega
              have k2 : gk ≤ gk := by omega
              have k3 : d.length + gk ≤ 128 := by omega
              have k4 : gk ≤ c' := by omega
              have hw1 : IntKind.i64.wrap ((128 : Int) - (d.length : Int)) = (gk : Int) := by rw [IntKind.wrap_i64]; omega
              have z3 : decide ((gk : Int) < (gk : Int)) = false := by simp
              have z4 : decide (gk < gk) = false := by simp
              have hw2 : IntKind.i64.wrap ((d.length : Int) + (gk : Int)) = (d.length : Int) + (gk : Int) := by rw [IntKind.wrap_i64]; omega
              obtain ⟨bb, bo, rfl, _⟩ := hbs3.2 hpos
              have hck : ¬ c' = gk := hcc
              have hbk : BS w3 B (some ⟨bb, bo, none⟩) gk (bs'.take gk) := hbs3.take k2
              have hbd : BS w3 B (some ⟨bb, bo + gk, none⟩) (gk - gk) (bs'.drop gk) := hbs3.drop k2
              have hnd : ∀ j, (Value.slice Al d.length cl).ownBlock = some j → j ≠ g := fun j hj => by
                obtain ⟨_, _, cur, fr, hh⟩ := own_block_lt hown j hj
                obtain ⟨_, _, vs', r3, _⟩ := hT
                obtain ⟨_, _, cur', fr', hh'⟩ := row_block r3 g rfl
                exact row_ne hh hh' (by decide)
              have hfix : ∀ w4, World.grownBy (w3.drew) w4 (Value.slice Al d.length cl).ownBlock → w4.cell? ⟨g, ini.length * 4 + 3, none⟩ = some (.slice Al d.length cl) ∧ w4.frozen? ⟨g, ini.length * 4 + 3, none⟩ = false := fun w4 hg => by
                have := hg.block g hgl (fun e => hnd g e.symm rfl)
                exact ⟨(World.cell?_of_block (a := ⟨g, ini.length * 4 + 3, none⟩) this).trans s3, (World.frozen?_of_block (a := ⟨g, ini.length * 4 + 3, none⟩) this).trans (hfr _)⟩
              have HFX := Lib.hid hfix
              have hownD : U.Own (w3.drew) base 5 Al d.length cl d := hown.drew
              have hbkD : BS (w3.drew) B (some ⟨bb, bo, none⟩) gk (bs'.take gk) := hbk
              have hlen5 : d.length + gk ≤ 140737488355328 := by omega
              have hbzD : base ≤ (w3.drew).heap.size := by
                have h1 := Blk.lt hT.1
                have h2 := hT.2.1
                have h3 : (w3.drew).heap.size = w3.heap.size := rfl
                omega
              have HK := Lib.hid (And.intro trivial (And.intro trivial (And.intro hbd (And.intro trivial hfr))))
              have hfr2 := hfr (ini.length * 4 + 3)
              clear hbd hnd hfix hfr hsmall
              go_wp2_with (go_at_call 108; refine hl2.mono ?_; rintro e w1 ⟨rfl, rfl⟩)
              go_region_law (refine step_app2 bt rfl (.tmp 44) (.tmp 48) rfl base Al d.length cl d rfl hownD _ _ _ _ (bs'.take gk) rfl hbkD hlen5 hbzD ?_; intro A4 c4 w4 hown4 hg4 hw4; have e0 := (HFX.out w4 hg4).1; have e1 := (HFX.out w4 hg4).2)
              all_goals
                have hT5 := Tr.setData (w := w3.drew) hT rfl s3 hg4 hown4 hw4
                have hs5 : Spare t w3 (w4.setCell ⟨g, ini.length * 4 + 3, none⟩ (.slice A4 (d.length + gk) c4)) := by
                  obtain ⟨_, _, vs', r3, _⟩ := hT
                  obtain ⟨_, _, cur', fr', hh'⟩ := row_block r3 g rfl
                  have hh4 : w4.heap[g]? = some (.cells cur' 68 fr') := (hg4.block g hgl (fun e => by
                    obtain ⟨_, _, cur, fr, hh⟩ := own_block_lt hown g e.symm
                    exact absurd rfl (row_ne hh hh' (by decide)))).trans hh'
                  refine Spare.trans (b := w4) (Spare.grown (w := w3.drew) hg4 fun j hj => ?_) (Spare.grown (grown_setC w4 g _ _) fun j hj => ?_)
                  · obtain ⟨_, _, cur, fr, hh⟩ := own_block_lt hown j hj
                    exact .inr ⟨cur, _, fr, hh, .inr rfl⟩
                  · injection hj with hj
                    subst hj
                    exact .inr ⟨cur', _, fr', hh4, .inl rfl⟩
                have hb5 : Below B w3 (w4.setCell ⟨g, ini.length * 4 + 3, none⟩ (.slice A4 (d.length + gk) c4)) := by
                  have z1 : B ≤ (w3.drew).heap.size := Nat.le_trans hB hbzD
                  have z2 := (below_drewN (Below.refl B w3) 1).grown hg4 z1 (fun j hj => by
                    obtain ⟨_, h, _⟩ := own_block_lt hown j hj
                    omega)
                  exact z2.grown (grown_setC w4 g _ _) (Nat.le_trans z1 hg4.size) (fun j hj => by injection hj; omega)
                obtain ⟨w5, hw5⟩ : ∃ w5, w5 = w4.setCell ⟨g, ini.length * 4 + 3, none⟩ (.slice A4 (d.length + gk) c4) := ⟨_, rfl⟩
                rw [← hw5] at hT5 hs5 hb5 ⊢
                obtain ⟨g'', Al5, cl5, hA5, hn5, _, hgl5, _, hc5, _, _, t2, _, hfr5, _⟩ := hT5.last_
                obtain rfl : g = g'' := by injection hA5 with hA5; injection hA5
                simp only at t2
                have hfr6 := hfr5 (ini.length * 4 + 2)
                clear hw5 hown4 hg4 hw4 e0 e1 s2 s3 hA5 hn5 hc5 hfr5
                go_wp2_with fail
                have hT7 := hT5.setLen rfl ((d.length : Int) + (gk : Int))
                have hs7 : Spare t w5 (w5.setCell ⟨g, ini.length * 4 + 2, none⟩ (.int .i64 ((d.length : Int) + (gk : Int)))) := by
                  obtain ⟨_, _, vs', r3, _⟩ := hT5
                  obtain ⟨_, _, cur', fr', hh'⟩ := row_block r3 g rfl
                  exact Spare.grown (grown_setC w5 g _ _) fun j hj => by injection hj with hj; subst hj; exact .inr ⟨cur', _, fr', hh', .inl rfl⟩
                have hb7 : Below B w5 (w5.setCell ⟨g, ini.length * 4 + 2, none⟩ (.int .i64 ((d.length : Int) + (gk : Int)))) := (Below.refl B w5).grown (grown_setC w5 g _ _) (by omega) (fun j hj => by injection hj; omega)
                go_roundg 0
                case measure => omega
                case rel => exact ⟨some ⟨bb, bo + gk, none⟩, c' - gk, [], ini ++ [⟨2, f, ((d.length : Int) + (gk : Int)), d ++ bs'.take gk⟩], _, _, _, rfl, by omega, BS.nil _ _ _, hT7, (by have h9 := HRR.out.1; rw [tells_chunk ini f d.length gk d bs' (by rw [HRR.out.2.2.2]; exact k2) k3, List.drop_of_length_le (by rw [HRR.out.2.2.2]; exact Nat.le_refl _)] at h9; exact h9), (HRR.out.2.1.snoc (by simp only [List.length_append, List.length_take]; rw [HRR.out.2.2.2]; omega)), (by have := HRR.out.2.2.1; simp only [List.length_append, List.length_cons, List.length_nil] at this ⊢; omega), ((hbw.trans hb3)).trans (hb5.trans hb7), ((hsp.trans hs3)).trans (hs5.trans hs7)⟩
          · obtain ⟨g', Al, cl, hA, hn1, hnc, hgl, hgb, hc0, s0, s1, s2, s3, hfr, hown⟩ := hT.last_
            obtain rfl : g = g' := by injection hA with hA; injection hA
            clear hn1 hA s0 s1
            simp only at s2 s3 hown
            obtain ⟨k, hk⟩ : ∃ k, k = 128 - d.length := ⟨_, rfl⟩
            have k1 : 1 ≤ k := by omega
            have k2 : k ≤ gk := by omega
            have k3 : d.length + k ≤ 128 := by omega
            have k4 : k ≤ c' := by omega
            have hw1 : IntKind.i64.wrap ((128 : Int) - (d.length : Int)) = (k : Int) := by rw [IntKind.wrap_i64]; omega
            have z3 : decide ((gk : Int) < (k : Int)) = false := by simp; omega
            have z4 : decide (gk < k) = false := by simp; omega
            have hw2 : IntKind.i64.wrap ((d.length : Int) + (k : Int)) = (d.length : Int) + (k : Int) := by rw [IntKind.wrap_i64]; omega
            obtain ⟨bb, bo, rfl, _⟩ := hbs3.2 hpos
            have hck : ¬ c' = k := by omega
            have hbk : BS w3 B (some ⟨bb, bo, none⟩) k (bs'.take k) := hbs3.take k2
            have hbd : BS w3 B (some ⟨bb, bo + k, none⟩) (gk - k) (bs'.drop k) := hbs3.drop k2
            have hnd : ∀ j, (Value.slice Al d.length cl).ownBlock = some j → j ≠ g := fun j hj => by
              obtain ⟨_, _, cur, fr, hh⟩ := own_block_lt hown j hj
              obtain ⟨_, _, vs', r3, _⟩ := hT
              obtain ⟨_, _, cur', fr', hh'⟩ := row_block r3 g rfl
              exact row_ne hh hh' (by decide)
            have hfix : ∀ w4, World.grownBy (w3.drew) w4 (Value.slice Al d.length cl).ownBlock → w4.cell? ⟨g, ini.length * 4 + 3, none⟩ = some (.slice Al d.length cl) ∧ w4.frozen? ⟨g, ini.length * 4 + 3, none⟩ = false := fun w4 hg => by
              have := hg.block g hgl (fun e => hnd g e.symm rfl)
              exact ⟨(World.cell?_of_block (a := ⟨g, ini.length * 4 + 3, none⟩) this).trans s3, (World.frozen?_of_block (a := ⟨g, ini.length * 4 + 3, none⟩) this).trans (hfr _)⟩
            have HFX := Lib.hid hfix
            have hownD : U.Own (w3.drew) base 5 Al d.length cl d := hown.drew
            have hbkD : BS (w3.drew) B (some ⟨bb, bo, none⟩) k (bs'.take k) := hbk
            have hlen5 : d.length + k ≤ 140737488355328 := by omega
            have hbzD : base ≤ (w3.drew).heap.size := by
              have h1 := Blk.lt hT.1
              have h2 := hT.2.1
              have h3 : (w3.drew).heap.size = w3.heap.size := rfl
              omega
            have HK := Lib.hid (And.intro trivial (And.intro trivial (And.intro hbd (And.intro trivial hfr))))
            have hfr2 := hfr (ini.length * 4 + 3)
            clear hk hbd hnd hfix hfr
            go_wp2_with (go_at_call 108; refine hl2.mono ?_; rintro e w1 ⟨rfl, rfl⟩)
            go_region_law (refine step_app2 bt rfl (.tmp 44) (.tmp 48) rfl base Al d.length cl d rfl hownD _ _ _ _ (bs'.take k) rfl hbkD hlen5 hbzD ?_; intro A4 c4 w4 hown4 hg4 hw4; have e0 := (HFX.out w4 hg4).1; have e1 := (HFX.out w4 hg4).2)
            all_goals
              have hT5 := Tr.setData (w := w3.drew) hT rfl s3 hg4 hown4 hw4
              have hs5 : Spare t w3 (w4.setCell ⟨g, ini.length * 4 + 3, none⟩ (.slice A4 (d.length + k) c4)) := by
                obtain ⟨_, _, vs', r3, _⟩ := hT
                obtain ⟨_, _, cur', fr', hh'⟩ := row_block r3 g rfl
                have hh4 : w4.heap[g]? = some (.cells cur' 68 fr') := (hg4.block g hgl (fun e => by
                  obtain ⟨_, _, cur, fr, hh⟩ := own_block_lt hown g e.symm
                  exact absurd rfl (row_ne hh hh' (by decide)))).trans hh'
                refine Spare.trans (b := w4) (Spare.grown (w := w3.drew) hg4 fun j hj => ?_) (Spare.grown (grown_setC w4 g _ _) fun j hj => ?_)
                · obtain ⟨_, _, cur, fr, hh⟩ := own_block_lt hown j hj
                  exact .inr ⟨cur, _, fr, hh, .inr rfl⟩
                · injection hj with hj
                  subst hj
                  exact .inr ⟨cur', _, fr', hh4, .inl rfl⟩
              have hb5 : Below B w3 (w4.setCell ⟨g, ini.length * 4 + 3, none⟩ (.slice A4 (d.length + k) c4)) := by
                have z1 : B ≤ (w3.drew).heap.size := Nat.le_trans hB hbzD
                have z2 := (below_drewN (Below.refl B w3) 1).grown hg4 z1 (fun j hj => by
                  obtain ⟨_, h, _⟩ := own_block_lt hown j hj
                  omega)
                exact z2.grown (grown_setC w4 g _ _) (Nat.le_trans z1 hg4.size) (fun j hj => by injection hj; omega)
              obtain ⟨w5, hw5⟩ : ∃ w5, w5 = w4.setCell ⟨g, ini.length * 4 + 3, none⟩ (.slice A4 (d.length + k) c4) := ⟨_, rfl⟩
              rw [← hw5] at hT5 hs5 hb5 ⊢
              obtain ⟨g'', Al5, cl5, hA5, hn5, _, hgl5, _, hc5, _, _, t2, _, hfr5, _⟩ := hT5.last_
              obtain rfl : g = g'' := by injection hA5 with hA5; injection hA5
              simp only at t2
              have hfr6 := hfr5 (ini.length * 4 + 2)
              clear hw5 hown4 hg4 hw4 e0 e1 s2 s3 hA5 hn5 hc5 hfr5
              go_wp2_with fail
              have hT7 := hT5.setLen rfl ((d.length : Int) + (k : Int))
              have hs7 : Spare t w5 (w5.setCell ⟨g, ini.length * 4 + 2, none⟩ (.int .i64 ((d.length : Int) + (k : Int)))) := by
                obtain ⟨_, _, vs', r3, _⟩ := hT5
                obtain ⟨_, _, cur', fr', hh'⟩ := row_block r3 g rfl
                exact Spare.grown (grown_setC w5 g _ _) fun j hj => by injection hj with hj; subst hj; exact .inr ⟨cur', _, fr', hh', .inl rfl⟩
              have hb7 : Below B w5 (w5.setCell ⟨g, ini.length * 4 + 2, none⟩ (.int .i64 ((d.length : Int) + (k : Int)))) := (Below.refl B w5).grown (grown_setC w5 g _ _) (by omega) (fun j hj => by injection hj; omega)
              go_roundg (gk - k)
              case measure => omega
              case rel => exact ⟨some ⟨bb, bo + k, none⟩, c' - k, bs'.drop k, ini ++ [⟨2, f, ((d.length : Int) + (k : Int)), d ++ bs'.take k⟩], _, _, _, rfl, by omega, HK.out.2.2.1.below (hb5.trans hb7), hT7, (by rw [← tells_chunk ini f d.length k d bs' (by rw [HRR.out.2.2.2]; exact k2) k3]; exact HRR.out.1), (HRR.out.2.1.snoc (by simp only [List.length_append, List.length_take]; rw [HRR.out.2.2.2]; omega)), (by have := HRR.out.2.2.1; simp only [List.length_append, List.length_cons, List.length_nil] at this ⊢; omega), ((hbw.trans hb3)).trans (hb5.trans hb7), ((hsp.trans hs3)).trans (hs5.trans hs7)⟩
        · go_wp2_with (first
            | (go_at_call 108; refine hl1.mono ?_; rintro e w1 ⟨rfl, rfl⟩)
            | (at_builtin; refine wpList_app4 Tryd.underlying65 infoS rfl rfl (.tmp 24) (.tmp 26) rfl base A n c vs rfl (HV.out.1 0) ⟨wo.heap.size, 0, none⟩ 1 1 (stpCells ⟨2, 0, 0, []⟩ none 0) rfl rfl (HV.out.2.1 0) HO.out hq1 hq2 (HV.out.2.2.1 0) ?_; intro A2 c2 w2 hown2 hg2 _; have hk2 := Blk.grown (HV.out.2.2.2 0) hg2 HN.out; have e0 := hk2.cell 0; have e1 := hk2.frozen 0; simp at e0))
          obtain ⟨hT, hb3, hs3⟩ := HD.out w2 A2 c2 hg2 hown2
          rw [HX.out.1, ← HX.out.2] at hT
          obtain ⟨w3, hw3⟩ : ∃ w3, w3 = w2.setCell ⟨t, 0, none⟩ (.slice A2 (n + 1) c2) := ⟨_, rfl⟩
          rw [← hw3] at hT hb3 hs3 ⊢
          obtain ⟨g, rfl⟩ : ∃ g, A2 = some ⟨g, 0, none⟩ := by obtain ⟨g, _, _, h, _⟩ := hT.last_; exact ⟨g, h⟩
          have hl2 := tlast_yes base t g (n + 1) c2 w3 ini ⟨2, f, (d.length : Int), d⟩ 2 hT rfl (by have := HRR.out.2.2.1; have := hT.len; simp at this; omega)
          have hbs3 := hbs.below hb3
          clear hw3 hown2 hg2 hk2 e0 e1 hbs hl1
          rcases Nat.lt_trichotomy gk (128 - d.length) with hsmall | hsmall | hsmall
          · by_cases hcc : c' = gk
            · obtain ⟨g', Al, cl, hA, hn1, hnc, hgl, hgb, hc0, s0, s1, s2, s3, hfr, hown⟩ := hT.last_
              obtain rfl : g = g' := by injection hA with hA; injection hA
              clear hn1 hA s0 s1
              simp only at s2 s3 hown
              have k1 : 1 ≤ gk := by omega
              have k2 : gk ≤ gk := by omega
              have k3 : d.length + gk ≤ 128 := by omega
              have k4 : gk ≤ c' := by omega
              have hw1 : IntKind.i64.wrap ((128 : Int) - (d.length : Int)) = (128 : Int) - (d.length : Int) := by rw [IntKind.wrap_i64]; omega
              have z3 : decide ((gk : Int) < (128 : Int) - (d.length : Int)) = true := by simp; omega
              have hw2 : IntKind.i64.wrap ((d.length : Int) + (gk : Int)) = (d.length : Int) + (gk : Int) := by rw [IntKind.wrap_i64]; omega
              obtain ⟨bb, bo, rfl, _⟩ := hbs3.2 hpos
              obtain rfl : gk = c' := by omega
              have hbk : BS w3 B (some ⟨bb, bo, none⟩) gk (bs'.take gk) := hbs3.take k2
              have hbd : BS w3 B (some ⟨bb, bo + gk, none⟩) (gk - gk) (bs'.drop gk) := hbs3.drop k2
              have hnd : ∀ j, (Value.slice Al d.length cl).ownBlock = some j → j ≠ g := fun j hj => by
                obtain ⟨_, _, cur, fr, hh⟩ := own_block_lt hown j hj
                obtain ⟨_, _, vs', r3, _⟩ := hT
                obtain ⟨_, _, cur', fr', hh'⟩ := row_block r3 g rfl
                exact row_ne hh hh' (by decide)
              have hfix : ∀ w4, World.grownBy (w3.drew) w4 (Value.slice Al d.length cl).ownBlock → w4.cell? ⟨g, ini.length * 4 + 3, none⟩ = some (.slice Al d.length cl) ∧ w4.frozen? ⟨g, ini.length * 4 + 3, none⟩ = false := fun w4 hg => by
                have := hg.block g hgl (fun e => hnd g e.symm rfl)
                exact ⟨(World.cell?_of_block (a := ⟨g, ini.length * 4 + 3, none⟩) this).trans s3, (World.frozen?_of_block (a := ⟨g, ini.length * 4 + 3, none⟩) this).trans (hfr _)⟩
              have HFX := Lib.hid hfix
              have hownD : U.Own (w3.drew) base 5 Al d.length cl d := hown.drew
              have hbkD : BS (w3.drew) B (some ⟨bb, bo, none⟩) gk (bs'.take gk) := hbk
              have hlen5 : d.length + gk ≤ 140737488355328 := by omega
              have hbzD : base ≤ (w3.drew).heap.size := by
                have h1 := Blk.lt hT.1
                have h2 := hT.2.1
                have h3 : (w3.drew).heap.size = w3.heap.size := rfl
                omega
              have HK := Lib.hid (And.intro trivial (And.intro trivial (And.intro hbd (And.intro trivial hfr))))
              have hfr2 := hfr (ini.length * 4 + 3)
              clear hbd hnd hfix hfr
              go_wp2_with (go_at_call 108; refine hl2.mono ?_; rintro e w1 ⟨rfl, rfl⟩)
              go_region_law (refine step_app2 bt rfl (.tmp 44) (.tmp 48) rfl base Al d.length cl d rfl hownD _ _ _ _ (bs'.take gk) rfl hbkD hlen5 hbzD ?_; intro A4 c4 w4 hown4 hg4 hw4; have e0 := (HFX.out w4 hg4).1; have e1 := (HFX.out w4 hg4).2)
              all_goals
                have hT5 := Tr.setData (w := w3.drew) hT rfl s3 hg4 hown4 hw4
                have hs5 : Spare t w3 (w4.setCell ⟨g, ini.length * 4 + 3, none⟩ (.slice A4 (d.length + gk) c4)) := by
                  obtain ⟨_, _, vs', r3, _⟩ := hT
                  obtain ⟨_, _, cur', fr', hh'⟩ := row_block r3 g rfl
                  have hh4 : w4.heap[g]? = some (.cells cur' 68 fr') := (hg4.block g hgl (fun e => by
                    obtain ⟨_, _, cur, fr, hh⟩ := own_block_lt hown g e.symm
                    exact absurd rfl (row_ne hh hh' (by decide)))).trans hh'
                  refine Spare.trans (b := w4) (Spare.grown (w := w3.drew) hg4 fun j hj => ?_) (Spare.grown (grown_setC w4 g _ _) fun j hj => ?_)
                  · obtain ⟨_, _, cur, fr, hh⟩ := own_block_lt hown j hj
                    exact .inr ⟨cur, _, fr, hh, .inr rfl⟩
                  · injection hj with hj
                    subst hj
                    exact .inr ⟨cur', _, fr', hh4, .inl rfl⟩
                have hb5 : Below B w3 (w4.setCell ⟨g, ini.length * 4 + 3, none⟩ (.slice A4 (d.length + gk) c4)) := by
                  have z1 : B ≤ (w3.drew).heap.size := Nat.le_trans hB hbzD
                  have z2 := (below_drewN (Below.refl B w3) 1).grown hg4 z1 (fun j hj => by
                    obtain ⟨_, h, _⟩ := own_block_lt hown j hj
                    omega)
                  exact z2.grown (grown_setC w4 g _ _) (Nat.le_trans z1 hg4.size) (fun j hj => by injection hj; omega)
                obtain ⟨w5, hw5⟩ : ∃ w5, w5 = w4.setCell ⟨g, ini.length * 4 + 3, none⟩ (.slice A4 (d.length + gk) c4) := ⟨_, rfl⟩
                rw [← hw5] at hT5 hs5 hb5 ⊢
                obtain ⟨g'', Al5, cl5, hA5, hn5, _, hgl5, _, hc5, _, _, t2, _, hfr5, _⟩ := hT5.last_
                obtain rfl : g = g'' := by injection hA5 with hA5; injection hA5
                simp only at t2
                have hfr6 := hfr5 (ini.length * 4 + 2)
                clear hw5 hown4 hg4 hw4 e0 e1 s2 s3 hA5 hn5 hc5 hfr5
                go_wp2_with fail
                have hT7 := hT5.setLen rfl ((d.length : Int) + (gk : Int))
                have hs7 : Spare t w5 (w5.setCell ⟨g, ini.length * 4 + 2, none⟩ (.int .i64 ((d.length : Int) + (gk : Int)))) := by
                  obtain ⟨_, _, vs', r3, _⟩ := hT5
                  obtain ⟨_, _, cur', fr', hh'⟩ := row_block r3 g rfl
                  exact Spare.grown (grown_setC w5 g _ _) fun j hj => by injection hj with hj; subst hj; exact .inr ⟨cur', _, fr', hh', .inl rfl⟩
                have hb7 : Below B w5 (w5.setCell ⟨g, ini.length * 4 + 2, none⟩ (.int .i64 ((d.length : Int) + (gk : Int)))) := (Below.refl B w5).grown (grown_setC w5 g _ _) (by omega) (fun j hj => by injection hj; omega)
                go_roundg 0
                case measure => omega
                case rel => exact ⟨some ⟨bb, bo, none⟩, 0, [], ini ++ [⟨2, f, ((d.length : Int) + (gk : Int)), d ++ bs'.take gk⟩], _, _, _, rfl, by omega, BS.nil _ _ _, hT7, (by have h9 := HRR.out.1; rw [tells_chunk ini f d.length gk d bs' (by rw [HRR.out.2.2.2]; exact k2) k3, List.drop_of_length_le (by rw [HRR.out.2.2.2]; exact Nat.le_refl _)] at h9; exact h9), (HRR.out.2.1.snoc (by simp only [List.length_append, List.length_take]; rw [HRR.out.2.2.2]; omega)), (by have := HRR.out.2.2.1; simp only [List.length_append, List.length_cons, List.length_nil] at this ⊢; omega), ((hbw.trans hb3)).trans (hb5.trans hb7), ((hsp.trans hs3)).trans (hs5.trans hs7)⟩
            · obtain ⟨g', Al, cl, hA, hn1, hnc, hgl, hgb, hc0, s0, s1, s2, s3, hfr, hown⟩ := hT.last_
              obtain rfl : g = g' := by injection hA with hA; injection hA
              clear hn1 hA s0 s1
              simp only at s2 s3 hown
              have k1 : 1 ≤ gk := by omega
              have k2 : gk ≤ gk := by omega
              have k3 : d.length + gk ≤ 128 := by omega
              have k4 : gk ≤ c' := by omega
              have hw1 : IntKind.i64.wrap ((128 : Int) - (d.length : Int)) = (128 : Int) - (d.length : Int) := by rw [IntKind.wrap_i64]; omega
              have z3 : decide ((gk : Int) < (128 : Int) - (d.length : Int)) = true := by simp; omega
              have hw2 : IntKind.i64.wrap ((d.length : Int) + (gk : Int)) = (d.length : Int) + (gk : Int) := by rw [IntKind.wrap_i64]; omega
              obtain ⟨bb, bo, rfl, _⟩ := hbs3.2 hpos
              have hck : ¬ c' = gk := hcc
              have hbk : BS w3 B (some ⟨bb, bo, none⟩) gk (bs'.take gk) := hbs3.take k2
              have hbd : BS w3 B (some ⟨bb, bo + gk, none⟩) (gk - gk) (bs'.drop gk) := hbs3.drop k2
              have hnd : ∀ j, (Value.slice Al d.length cl).ownBlock = some j → j ≠ g := fun j hj => by
                obtain ⟨_, _, cur, fr, hh⟩ := own_block_lt hown j hj
                obtain ⟨_, _, vs', r3, _⟩ := hT
                obtain ⟨_, _, cur', fr', hh'⟩ := row_block r3 g rfl
                exact row_ne hh hh' (by decide)
              have hfix : ∀ w4, World.grownBy (w3.drew) w4 (Value.slice Al d.length cl).ownBlock → w4.cell? ⟨g, ini.length * 4 + 3, none⟩ = some (.slice Al d.length cl) ∧ w4.frozen? ⟨g, ini.length * 4 + 3, none⟩ = false := fun w4 hg => by
                have := hg.block g hgl (fun e => hnd g e.symm rfl)
                exact ⟨(World.cell?_of_block (a := ⟨g, ini.length * 4 + 3, none⟩) this).trans s3, (World.frozen?_of_block (a := ⟨g, ini.length * 4 + 3, none⟩) this).trans (hfr _)⟩
              have HFX := Lib.hid hfix
              have hownD : U.Own (w3.drew) base 5 Al d.length cl d := hown.drew
              have hbkD : BS (w3.drew) B (some ⟨bb, bo, none⟩) gk (bs'.take gk) := hbk
              have hlen5 : d.length + gk ≤ 140737488355328 := by omega
              have hbzD : base ≤ (w3.drew).heap.size := by
                have h1 := Blk.lt hT.1
                have h2 := hT.2.1
                have h3 : (w3.drew).heap.size = w3.heap.size := rfl
                omega
              have HK := Lib.hid (And.intro trivial (And.intro trivial (And.intro hbd (And.intro trivial hfr))))
              have hfr2 := hfr (ini.length * 4 + 3)
              clear hbd hnd hfix hfr
              go_wp2_with (go_at_call 108; refine hl2.mono ?_; rintro e w1 ⟨rfl, rfl⟩)
              go_region_law (refine step_app2 bt rfl (.tmp 44) (.tmp 48) rfl base Al d.length cl d rfl hownD _ _ _ _ (bs'.take gk) rfl hbkD hlen5 hbzD ?_; intro A4 c4 w4 hown4 hg4 hw4; have e0 := (HFX.out w4 hg4).1; have e1 := (HFX.out w4 hg4).2)
              all_goals
                have hT5 := Tr.setData (w := w3.drew) hT rfl s3 hg4 hown4 hw4
                have hs5 : Spare t w3 (w4.setCell ⟨g, ini.length * 4 + 3, none⟩ (.slice A4 (d.length + gk) c4)) := by
                  obtain ⟨_, _, vs', r3, _⟩ := hT
                  obtain ⟨_, _, cur', fr', hh'⟩ := row_block r3 g rfl
                  have hh4 : w4.heap[g]? = some (.cells cur' 68 fr') := (hg4.block g hgl (fun e => by
                    obtain ⟨_, _, cur, fr, hh⟩ := own_block_lt hown g e.symm
                    exact absurd rfl (row_ne hh hh' (by decide)))).trans hh'
                  refine Spare.trans (b := w4) (Spare.grown (w := w3.drew) hg4 fun j hj => ?_) (Spare.grown (grown_setC w4 g _ _) fun j hj => ?_)
                  · obtain ⟨_, _, cur, fr, hh⟩ := own_block_lt hown j hj
                    exact .inr ⟨cur, _, fr, hh, .inr rfl⟩
                  · injection hj with hj
                    subst hj
                    exact .inr ⟨cur', _, fr', hh4, .inl rfl⟩
                have hb5 : Below B w3 (w4.setCell ⟨g, ini.length * 4 + 3, none⟩ (.slice A4 (d.length + gk) c4)) := by
                  have z1 : B ≤ (w3.drew).heap.size := Nat.le_trans hB hbzD
                  have z2 := (below_drewN (Below.refl B w3) 1).grown hg4 z1 (fun j hj => by
                    obtain ⟨_, h, _⟩ := own_block_lt hown j hj
                    omega)
                  exact z2.grown (grown_setC w4 g _ _) (Nat.le_trans z1 hg4.size) (fun j hj => by injection hj; omega)
                obtain ⟨w5, hw5⟩ : ∃ w5, w5 = w4.setCell ⟨g, ini.length * 4 + 3, none⟩ (.slice A4 (d.length + gk) c4) := ⟨_, rfl⟩
                rw [← hw5] at hT5 hs5 hb5 ⊢
                obtain ⟨g'', Al5, cl5, hA5, hn5, _, hgl5, _, hc5, _, _, t2, _, hfr5, _⟩ := hT5.last_
                obtain rfl : g = g'' := by injection hA5 with hA5; injection hA5
                simp only at t2
                have hfr6 := hfr5 (ini.length * 4 + 2)
                clear hw5 hown4 hg4 hw4 e0 e1 s2 s3 hA5 hn5 hc5 hfr5
                go_wp2_with fail
                have hT7 := hT5.setLen rfl ((d.length : Int) + (gk : Int))
                have hs7 : Spare t w5 (w5.setCell ⟨g, ini.length * 4 + 2, none⟩ (.int .i64 ((d.length : Int) + (gk : Int)))) := by
                  obtain ⟨_, _, vs', r3, _⟩ := hT5
                  obtain ⟨_, _, cur', fr', hh'⟩ := row_block r3 g rfl
                  exact Spare.grown (grown_setC w5 g _ _) fun j hj => by injection hj with hj; subst hj; exact .inr ⟨cur', _, fr', hh', .inl rfl⟩
                have hb7 : Below B w5 (w5.setCell ⟨g, ini.length * 4 + 2, none⟩ (.int .i64 ((d.length : Int) + (gk : Int)))) := (Below.refl B w5).grown (grown_setC w5 g _ _) (by omega) (fun j hj => by injection hj; omega)
                go_roundg 0
                case measure => omega
                case rel => exact ⟨some ⟨bb, bo + gk, none⟩, c' - gk, [], ini ++ [⟨2, f, ((d.length : Int) + (gk : Int)), d ++ bs'.take gk⟩], _, _, _, rfl, by omega, BS.nil _ _ _, hT7, (by have h9 := HRR.out.1; rw [tells_chunk ini f d.length gk d bs' (by rw [HRR.out.2.2.2]; exact k2) k3, List.drop_of_length_le (by rw [HRR.out.2.2.2]; exact Nat.le_refl _)] at h9; exact h9), (HRR.out.2.1.snoc (by simp only [List.length_append, List.length_take]; rw [HRR.out.2.2.2]; omega)), (by have := HRR.out.2.2.1; simp only [List.length_append, List.length_cons, List.length_nil] at this ⊢; omega), ((hbw.trans hb3)).trans (hb5.trans hb7), ((hsp.trans hs3)).trans (hs5.trans hs7)⟩
          · by_cases hcc : c' = gk
            · obtain ⟨g', Al, cl, hA, hn1, hnc, hgl, hgb, hc0, s0, s1, s2, s3, hfr, hown⟩ := hT.last_
              obtain rfl : g = g' := by injection hA with hA; injection hA
              clear hn1 hA s0 s1
              simp only at s2 s3 hown
              have k1 : 1 ≤ gk := by omega
              have k2 : gk ≤ gk := by omega
              have k3 : d.length + gk ≤ 128 := by omega
              have k4 : gk ≤ c' := by omega
              have hw1 : IntKind.i64.wrap ((128 : Int) - (d.length : Int)) = (gk : Int) := by rw [IntKind.wrap_i64]; omega
              have z3 : decide ((gk : Int) < (gk : Int)) = false := by simp
              have z4 : decide (gk < gk) = false := by simp
              have hw2 : IntKind.i64.wrap ((d.length : Int) + (gk : Int)) = (d.length : Int) + (gk : Int) := by rw [IntKind.wrap_i64]; omega
              obtain ⟨bb, bo, rfl, _⟩ := hbs3.2 hpos
              obtain rfl : gk = c' := by omega
              have hbk : BS w3 B (some ⟨bb, bo, none⟩) gk (bs'.take gk) := hbs3.take k2
              have hbd : BS w3 B (some ⟨bb, bo + gk, none⟩) (gk - gk) (bs'.drop gk) := hbs3.drop k2
              have hnd : ∀ j, (Value.slice Al d.length cl).ownBlock = some j → j ≠ g := fun j hj => by
                obtain ⟨_, _, cur, fr, hh⟩ := own_block_lt hown j hj
                obtain ⟨_, _, vs', r3, _⟩ := hT
                obtain ⟨_, _, cur', fr', hh'⟩ := row_block r3 g rfl
                exact row_ne hh hh' (by decide)
              have hfix : ∀ w4, World.grownBy (w3.drew) w4 (Value.slice Al d.length cl).ownBlock → w4.cell? ⟨g, ini.length * 4 + 3, none⟩ = some (.slice Al d.length cl) ∧ w4.frozen? ⟨g, ini.length * 4 + 3, none⟩ = false := fun w4 hg => by
                have := hg.block g hgl (fun e => hnd g e.symm rfl)
                exact ⟨(World.cell?_of_block (a := ⟨g, ini.length * 4 + 3, none⟩) this).trans s3, (World.frozen?_of_block (a := ⟨g, ini.length * 4 + 3, none⟩) this).trans (hfr _)⟩
              have HFX := Lib.hid hfix
              have hownD : U.Own (w3.drew) base 5 Al d.length cl d := hown.drew
              have hbkD : BS (w3.drew) B (some ⟨bb, bo, none⟩) gk (bs'.take gk) := hbk
              have hlen5 : d.length + gk ≤ 140737488355328 := by omega
              have hbzD : base ≤ (w3.drew).heap.size := by
                have h1 := Blk.lt hT.1
                have h2 := hT.2.1
                have h3 : (w3.drew).heap.size = w3.heap.size := rfl
                omega
              have HK := Lib.hid (And.intro trivial (And.intro trivial (And.intro hbd (And.intro trivial hfr))))
              have hfr2 := hfr (ini.length * 4 + 3)
              clear hbd hnd hfix hfr hsmall
              go_wp2_with (go_at_call 108; refine hl2.mono ?_; rintro e w1 ⟨rfl, rfl⟩)
              go_region_law (refine step_app2 bt rfl (.tmp 44) (.tmp 48) rfl base Al d.length cl d rfl hownD _ _ _ _ (bs'.take gk) rfl hbkD hlen5 hbzD ?_; intro A4 c4 w4 hown4 hg4 hw4; have e0 := (HFX.out w4 hg4).1; have e1 := (HFX.out w4 hg4).2)
              all_goals
                have hT5 := Tr.setData (w := w3.drew) hT rfl s3 hg4 hown4 hw4
                have hs5 : Spare t w3 (w4.setCell ⟨g, ini.length * 4 + 3, none⟩ (.slice A4 (d.length + gk) c4)) := by
                  obtain ⟨_, _, vs', r3, _⟩ := hT
                  obtain ⟨_, _, cur', fr', hh'⟩ := row_block r3 g rfl
                  have hh4 : w4.heap[g]? = some (.cells cur' 68 fr') := (hg4.block g hgl (fun e => by
                    obtain ⟨_, _, cur, fr, hh⟩ := own_block_lt hown g e.symm
                    exact absurd rfl (row_ne hh hh' (by decide)))).trans hh'
                  refine Spare.trans (b := w4) (Spare.grown (w := w3.drew) hg4 fun j hj => ?_) (Spare.grown (grown_setC w4 g _ _) fun j hj => ?_)
                  · obtain ⟨_, _, cur, fr, hh⟩ := own_block_lt hown j hj
                    exact .inr ⟨cur, _, fr, hh, .inr rfl⟩
                  · injection hj with hj
                    subst hj
                    exact .inr ⟨cur', _, fr', hh4, .inl rfl⟩
                have hb5 : Below B w3 (w4.setCell ⟨g, ini.length * 4 + 3, none⟩ (.slice A4 (d.length + gk) c4)) := by
                  have z1 : B ≤ (w3.drew).heap.size := Nat.le_trans hB hbzD
                  have z2 := (below_drewN (Below.refl B w3) 1).grown hg4 z1 (fun j hj => by
                    obtain ⟨_, h, _⟩ := own_block_lt hown j hj
                    omega)
                  exact z2.grown (grown_setC w4 g _ _) (Nat.le_trans z1 hg4.size) (fun j hj => by injection hj; omega)
                obtain ⟨w5, hw5⟩ : ∃ w5, w5 = w4.setCell ⟨g, ini.length * 4 + 3, none⟩ (.slice A4 (d.length + gk) c4) := ⟨_, rfl⟩
                rw [← hw5] at hT5 hs5 hb5 ⊢
                obtain ⟨g'', Al5, cl5, hA5, hn5, _, hgl5, _, hc5, _, _, t2, _, hfr5, _⟩ := hT5.last_
                obtain rfl : g = g'' := by injection hA5 with hA5; injection hA5
                simp only at t2
                have hfr6 := hfr5 (ini.length * 4 + 2)
                clear hw5 hown4 hg4 hw4 e0 e1 s2 s3 hA5 hn5 hc5 hfr5
                go_wp2_with fail
                have hT7 := hT5.setLen rfl ((d.length : Int) + (gk : Int))
                have hs7 : Spare t w5 (w5.setCell ⟨g, ini.length * 4 + 2, none⟩ (.int .i64 ((d.length : Int) + (gk : Int)))) := by
                  obtain ⟨_, _, vs', r3, _⟩ := hT5
                  obtain ⟨_, _, cur', fr', hh'⟩ := row_block r3 g rfl
                  exact Spare.grown (grown_setC w5 g _ _) fun j hj => by injection hj with hj; subst hj; exact .inr ⟨cur', _, fr', hh', .inl rfl⟩
                have hb7 : Below B w5 (w5.setCell ⟨g, ini.length * 4 + 2, none⟩ (.int .i64 ((d.length : Int) + (gk : Int)))) := (Below.refl B w5).grown (grown_setC w5 g _ _) (by omega) (fun j hj => by injection hj; omega)
                go_roundg 0
                case measure => omega
                case rel => exact ⟨some ⟨bb, bo, none⟩, 0, [], ini ++ [⟨2, f, ((d.length : Int) + (gk : Int)), d ++ bs'.take gk⟩], _, _, _, rfl, by omega, BS.nil _ _ _, hT7, (by have h9 := HRR.out.1; rw [tells_chunk ini f d.length gk d bs' (by rw [HRR.out.2.2.2]; exact k2) k3, List.drop_of_length_le (by rw [HRR.out.2.2.2]; exact Nat.le_refl _)] at h9; exact h9), (HRR.out.2.1.snoc (by simp only [List.length_append, List.length_take]; rw [HRR.out.2.2.2]; omega)), (by have := HRR.out.2.2.1; simp only [List.length_append, List.length_cons, List.length_nil] at this ⊢; omega), ((hbw.trans hb3)).trans (hb5.trans hb7), ((hsp.trans hs3)).trans (hs5.trans hs7)⟩
            · obtain ⟨g', Al, cl, hA, hn1, hnc, hgl, hgb, hc0, s0, s1, s2, s3, hfr, hown⟩ := hT.last_
              obtain rfl : g = g' := by injection hA with hA; injection hA
              clear hn1 hA s0 s1
              simp only at s2 s3 hown
              have k1 : 1 ≤ gk := by omega
              have k2 : gk ≤ gk := by omega
              have k3 : d.length + gk ≤ 128 := by omega
              have k4 : gk ≤ c' := by omega
              have hw1 : IntKind.i64.wrap ((128 : Int) - (d.length : Int)) = (gk : Int) := by rw [IntKind.wrap_i64]; omega
              have z3 : decide ((gk : Int) < (gk : Int)) = false := by simp
              have z4 : decide (gk < gk) = false := by simp
              have hw2 : IntKind.i64.wrap ((d.length : Int) + (gk : Int)) = (d.length : Int) + (gk : Int) := by rw [IntKind.wrap_i64]; omega
              obtain ⟨bb, bo, rfl, _⟩ := hbs3.2 hpos
              have hck : ¬ c' = gk := hcc
              have hbk : BS w3 B (some ⟨bb, bo, none⟩) gk (bs'.take gk) := hbs3.take k2
              have hbd : BS w3 B (some ⟨bb, bo + gk, none⟩) (gk - gk) (bs'.drop gk) := hbs3.drop k2
              have hnd : ∀ j, (Value.slice Al d.length cl).ownBlock = some j → j ≠ g := fun j hj => by
                obtain ⟨_, _, cur, fr, hh⟩ := own_block_lt hown j hj
                obtain ⟨_, _, vs', r3, _⟩ := hT
                obtain ⟨_, _, cur', fr', hh'⟩ := row_block r3 g rfl
                exact row_ne hh hh' (by decide)
              have hfix : ∀ w4, World.grownBy (w3.drew) w4 (Value.slice Al d.length cl).ownBlock → w4.cell? ⟨g, ini.length * 4 + 3, none⟩ = some (.slice Al d.length cl) ∧ w4.frozen? ⟨g, ini.length * 4 + 3, none⟩ = false := fun w4 hg => by
                have := hg.block g hgl (fun e => hnd g e.symm rfl)
                exact ⟨(World.cell?_of_block (a := ⟨g, ini.length * 4 + 3, none⟩) this).trans s3, (World.frozen?_of_block (a := ⟨g, ini.length * 4 + 3, none⟩) this).trans (hfr _)⟩
              have HFX := Lib.hid hfix
              have hownD : U.Own (w3.drew) base 5 Al d.length cl d := hown.drew
              have hbkD : BS (w3.drew) B (some ⟨bb, bo, none⟩) gk (bs'.take gk) := hbk
              have hlen5 : d.length + gk ≤ 140737488355328 := by omega
              have hbzD : base ≤ (w3.drew).heap.size := by
                have h1 := Blk.lt hT.1
                have h2 := hT.2.1
                have h3 : (w3.drew).heap.size = w3.heap.size := rfl
                omega
              have HK := Lib.hid (And.intro trivial (And.intro trivial (And.intro hbd (And.intro trivial hfr))))
              have hfr2 := hfr (ini.length * 4 + 3)
              clear hbd hnd hfix hfr hsmall
              go_wp2_with (go_at_call 108; refine hl2.mono ?_; rintro e w1 ⟨rfl, rfl⟩)
              go_region_law (refine step_app2 bt rfl (.tmp 44) (.tmp 48) rfl base Al d.length cl d rfl hownD _ _ _ _ (bs'.take gk) rfl hbkD hlen5 hbzD ?_; intro A4 c4 w4 hown4 hg4 hw4; have e0 := (HFX.out w4 hg4).1; have e1 := (HFX.out w4 hg4).2)
              all_goals
                have hT5 := Tr.setData (w := w3.drew) hT rfl s3 hg4 hown4 hw4
                have hs5 : Spare t w3 (w4.setCell ⟨g, ini.length * 4 + 3, none⟩ (.slice A4 (d.length + gk) c4)) := by
                  obtain ⟨_, _, vs', r3, _⟩ := hT
                  obtain ⟨_, _, cur', fr', hh'⟩ := row_block r3 g rfl
                  have hh4 : w4.heap[g]? = some (.cells cur' 68 fr') := (hg4.block g hgl (fun e => by
                    obtain ⟨_, _, cur, fr, hh⟩ := own_block_lt hown g e.symm
                    exact absurd rfl (row_ne hh hh' (by decide)))).trans hh'
                  refine Spare.trans (b := w4) (Spare.grown (w := w3.drew) hg4 fun j hj => ?_) (Spare.grown (grown_setC w4 g _ _) fun j hj => ?_)
                  · obtain ⟨_, _, cur, fr, hh⟩ := own_block_lt hown j hj
                    exact .inr ⟨cur, _, fr, hh, .inr rfl⟩
                  · injection hj with hj
                    subst hj
                    exact .inr ⟨cur', _, fr', hh4, .inl rfl⟩
                have hb5 : Below B w3 (w4.setCell ⟨g, ini.length * 4 + 3, none⟩ (.slice A4 (d.length + gk) c4)) := by
                  have z1 : B ≤ (w3.drew).heap.size := Nat.le_trans hB hbzD
                  have z2 := (below_drewN (Below.refl B w3) 1).grown hg4 z1 (fun j hj => by
                    obtain ⟨_, h, _⟩ := own_block_lt hown j hj
                    omega)
                  exact z2.grown (grown_setC w4 g _ _) (Nat.le_trans z1 hg4.size) (fun j hj => by injection hj; omega)
                obtain ⟨w5, hw5⟩ : ∃ w5, w5 = w4.setCell ⟨g, ini.length * 4 + 3, none⟩ (.slice A4 (d.length + gk) c4) := ⟨_, rfl⟩
                rw [← hw5] at hT5 hs5 hb5 ⊢
                obtain ⟨g'', Al5, cl5, hA5, hn5, _, hgl5, _, hc5, _, _, t2, _, hfr5, _⟩ := hT5.last_
                obtain rfl : g = g'' := by injection hA5 with hA5; injection hA5
                simp only at t2
                have hfr6 := hfr5 (ini.length * 4 + 2)
                clear hw5 hown4 hg4 hw4 e0 e1 s2 s3 hA5 hn5 hc5 hfr5
                go_wp2_with fail
                have hT7 := hT5.setLen rfl ((d.length : Int) + (gk : Int))
                have hs7 : Spare t w5 (w5.setCell ⟨g, ini.length * 4 + 2, none⟩ (.int .i64 ((d.length : Int) + (gk : Int)))) := by
                  obtain ⟨_, _, vs', r3, _⟩ := hT5
                  obtain ⟨_, _, cur', fr', hh'⟩ := row_block r3 g rfl
                  exact Spare.grown (grown_setC w5 g _ _) fun j hj => by injection hj with hj; subst hj; exact .inr ⟨cur', _, fr', hh', .inl rfl⟩
                have hb7 : Below B w5 (w5.setCell ⟨g, ini.length * 4 + 2, none⟩ (.int .i64 ((d.length : Int) + (gk : Int)))) := (Below.refl B w5).grown (grown_setC w5 g _ _) (by omega) (fun j hj => by injection hj; omega)
                go_roundg 0
                case measure => omega
                case rel => exact ⟨some ⟨bb, bo + gk, none⟩, c' - gk, [], ini ++ [⟨2, f, ((d.length : Int) + (gk : Int)), d ++ bs'.take gk⟩], _, _, _, rfl, by omega, BS.nil _ _ _, hT7, (by have h9 := HRR.out.1; rw [tells_chunk ini f d.length gk d bs' (by rw [HRR.out.2.2.2]; exact k2) k3, List.drop_of_length_le (by rw [HRR.out.2.2.2]; exact Nat.le_refl _)] at h9; exact h9), (HRR.out.2.1.snoc (by simp only [List.length_append, List.length_take]; rw [HRR.out.2.2.2]; omega)), (by have := HRR.out.2.2.1; simp only [List.length_append, List.length_cons, List.length_nil] at this ⊢; omega), ((hbw.trans hb3)).trans (hb5.trans hb7), ((hsp.trans hs3)).trans (hs5.trans hs7)⟩
          · obtain ⟨g', Al, cl, hA, hn1, hnc, hgl, hgb, hc0, s0, s1, s2, s3, hfr, hown⟩ := hT.last_
            obtain rfl : g = g' := by injection hA with hA; injection hA
            clear hn1 hA s0 s1
            simp only at s2 s3 hown
            obtain ⟨k, hk⟩ : ∃ k, k = 128 - d.length := ⟨_, rfl⟩
            have k1 : 1 ≤ k := by omega
            have k2 : k ≤ gk := by omega
            have k3 : d.length + k ≤ 128 := by omega
            have k4 : k ≤ c' := by omega
            have hw1 : IntKind.i64.wrap ((128 : Int) - (d.length : Int)) = (k : Int) := by rw [IntKind.wrap_i64]; omega
            have z3 : decide ((gk : Int) < (k : Int)) = false := by simp; omega
            have z4 : decide (gk < k) = false := by simp; omega
            have hw2 : IntKind.i64.wrap ((d.length : Int) + (k : Int)) = (d.length : Int) + (k : Int) := by rw [IntKind.wrap_i64]; omega
            obtain ⟨bb, bo, rfl, _⟩ := hbs3.2 hpos
            have hck : ¬ c' = k := by omega
            have hbk : BS w3 B (some ⟨bb, bo, none⟩) k (bs'.take k) := hbs3.take k2
            have hbd : BS w3 B (some ⟨bb, bo + k, none⟩) (gk - k) (bs'.drop k) := hbs3.drop k2
            have hnd : ∀ j, (Value.slice Al d.length cl).ownBlock = some j → j ≠ g := fun j hj => by
              obtain ⟨_, _, cur, fr, hh⟩ := own_block_lt hown j hj
              obtain ⟨_, _, vs', r3, _⟩ := hT
              obtain ⟨_, _, cur', fr', hh'⟩ := row_block r3 g rfl
              exact row_ne hh hh' (by decide)
            have hfix : ∀ w4, World.grownBy (w3.drew) w4 (Value.slice Al d.length cl).ownBlock → w4.cell? ⟨g, ini.length * 4 + 3, none⟩ = some (.slice Al d.length cl) ∧ w4.frozen? ⟨g, ini.length * 4 + 3, none⟩ = false := fun w4 hg => by
              have := hg.block g hgl (fun e => hnd g e.symm rfl)
              exact ⟨(World.cell?_of_block (a := ⟨g, ini.length * 4 + 3, none⟩) this).trans s3, (World.frozen?_of_block (a := ⟨g, ini.length * 4 + 3, none⟩) this).trans (hfr _)⟩
            have HFX := Lib.hid hfix
            have hownD : U.Own (w3.drew) base 5 Al d.length cl d := hown.drew
            have hbkD : BS (w3.drew) B (some ⟨bb, bo, none⟩) k (bs'.take k) := hbk
            have hlen5 : d.length + k ≤ 140737488355328 := by omega
            have hbzD : base ≤ (w3.drew).heap.size := by
              have h1 := Blk.lt hT.1
              have h2 := hT.2.1
              have h3 : (w3.drew).heap.size = w3.heap.size := rfl
              omega
            have HK := Lib.hid (And.intro trivial (And.intro trivial (And.intro hbd (And.intro trivial hfr))))
            have hfr2 := hfr (ini.length * 4 + 3)
            clear hk hbd hnd hfix hfr
            go_wp2_with (go_at_call 108; refine hl2.mono ?_; rintro e w1 ⟨rfl, rfl⟩)
            go_region_law (refine step_app2 bt rfl (.tmp 44) (.tmp 48) rfl base Al d.length cl d rfl hownD _ _ _ _ (bs'.take k) rfl hbkD hlen5 hbzD ?_; intro A4 c4 w4 hown4 hg4 hw4; have e0 := (HFX.out w4 hg4).1; have e1 := (HFX.out w4 hg4).2)
            all_goals
              have hT5 := Tr.setData (w := w3.drew) hT rfl s3 hg4 hown4 hw4
              have hs5 : Spare t w3 (w4.setCell ⟨g, ini.length * 4 + 3, none⟩ (.slice A4 (d.length + k) c4)) := by
                obtain ⟨_, _, vs', r3, _⟩ := hT
                obtain ⟨_, _, cur', fr', hh'⟩ := row_block r3 g rfl
                have hh4 : w4.heap[g]? = some (.cells cur' 68 fr') := (hg4.block g hgl (fun e => by
                  obtain ⟨_, _, cur, fr, hh⟩ := own_block_lt hown g e.symm
                  exact absurd rfl (row_ne hh hh' (by decide)))).trans hh'
                refine Spare.trans (b := w4) (Spare.grown (w := w3.drew) hg4 fun j hj => ?_) (Spare.grown (grown_setC w4 g _ _) fun j hj => ?_)
                · obtain ⟨_, _, cur, fr, hh⟩ := own_block_lt hown j hj
                  exact .inr ⟨cur, _, fr, hh, .inr rfl⟩
                · injection hj with hj
                  subst hj
                  exact .inr ⟨cur', _, fr', hh4, .inl rfl⟩
              have hb5 : Below B w3 (w4.setCell ⟨g, ini.length * 4 + 3, none⟩ (.slice A4 (d.length + k) c4)) := by
                have z1 : B ≤ (w3.drew).heap.size := Nat.le_trans hB hbzD
                have z2 := (below_drewN (Below.refl B w3) 1).grown hg4 z1 (fun j hj => by
                  obtain ⟨_, h, _⟩ := own_block_lt hown j hj
                  omega)
                exact z2.grown (grown_setC w4 g _ _) (Nat.le_trans z1 hg4.size) (fun j hj => by injection hj; omega)
              obtain ⟨w5, hw5⟩ : ∃ w5, w5 = w4.setCell ⟨g, ini.length * 4 + 3, none⟩ (.slice A4 (d.length + k) c4) := ⟨_, rfl⟩
              rw [← hw5] at hT5 hs5 hb5 ⊢
              obtain ⟨g'', Al5, cl5, hA5, hn5, _, hgl5, _, hc5, _, _, t2, _, hfr5, _⟩ := hT5.last_
              obtain rfl : g = g'' := by injection hA5 with hA5; injection hA5
              simp only at t2
              have hfr6 := hfr5 (ini.length * 4 + 2)
              clear hw5 hown4 hg4 hw4 e0 e1 s2 s3 hA5 hn5 hc5 hfr5
              go_wp2_with fail
              have hT7 := hT5.setLen rfl ((d.length : Int) + (k : Int))
              have hs7 : Spare t w5 (w5.setCell ⟨g, ini.length * 4 + 2, none⟩ (.int .i64 ((d.length : Int) + (k : Int)))) := by
                obtain ⟨_, _, vs', r3, _⟩ := hT5
                obtain ⟨_, _, cur', fr', hh'⟩ := row_block r3 g rfl
                exact Spare.grown (grown_setC w5 g _ _) fun j hj => by injection hj with hj; subst hj; exact .inr ⟨cur', _, fr', hh', .inl rfl⟩
              have hb7 : Below B w5 (w5.setCell ⟨g, ini.length * 4 + 2, none⟩ (.int .i64 ((d.length : Int) + (k : Int)))) := (Below.refl B w5).grown (grown_setC w5 g _ _) (by omega) (fun j hj => by injection hj; omega)
              go_roundg (gk - k)
              case measure => omega
              case rel => exact ⟨some ⟨bb, bo + k, none⟩, c' - k, bs'.drop k, ini ++ [⟨2, f, ((d.length : Int) + (k : Int)), d ++ bs'.take k⟩], _, _, _, rfl, by omega, HK.out.2.2.1.below (hb5.trans hb7), hT7, (by rw [← tells_chunk ini f d.length k d bs' (by rw [HRR.out.2.2.2]; exact k2) k3]; exact HRR.out.1), (HRR.out.2.1.snoc (by simp only [List.length_append, List.length_take]; rw [HRR.out.2.2.2]; omega)), (by have := HRR.out.2.2.1; simp only [List.length_append, List.length_cons, List.length_nil] at this ⊢; omega), ((hbw.trans hb3)).trans (hb5.trans hb7), ((hsp.trans hs3)).trans (hs5.trans hs7)⟩
    · obtain rfl : gk = 0 := by omega
      have hbe : bs' = [] := List.eq_nil_of_length_eq_zero (by omega)
      subst hbe
      have hRl : l = R := hR
      subst hRl
      clear hR hL hlm hblen hbs
      go_wp2_with fail
      go_end0
      exact ⟨rfl, ⟨_, _, _, hT0⟩, hbw, hsp⟩
end Go.Proofs.YtmnanbcinfdbaaaDoor
end
