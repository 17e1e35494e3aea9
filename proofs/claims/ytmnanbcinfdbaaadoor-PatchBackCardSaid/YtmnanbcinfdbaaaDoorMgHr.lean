/- The walks of the document's Copied and Told; conditions: none beyond their hypotheses. The walk of the document's Told; conditions: none beyond its hypotheses. -/
import Derived.Test.YtmnanbcinfdbaaaDoorMgHt
import Derived.Test.YtmnanbcinfdbaaaDoorMgHw
set_option linter.unusedSimpArgs false
set_option linter.unusedVariables false
section
namespace Go.Proofs.YtmnanbcinfdbaaaDoor
open Go.RowKit Go.Proofs.U
set_option linter.unusedVariables false
/-- append of a whole row of steps to the empty one -/
theorem wpList_cp4 {P : Program} {w : World} {t e : TypeId} {z : Value} {by_ : Nat} (ht : P.underlying t = some (.slice e)) (hI : (P.info? e).map (fun i => (i.zero, i.size, i.bytes)) = some (some z, 4, by_)) (hz1 : z.cells.size = 4)
    {ops : Array Oper} {rest : List Oper} {o : Oper} {a : Act} {Q : Exit → Act → World → Prop} (hgd : o.guard = none) (s x : Operand)
    (ho : o.op = .call { callee := .builtin .append, args := #[s, x], argTypes := #[t, t] })
    (base : Nat) (A : Option Addr) (c : Nat) (hs : a.eval s = .slice A 0 c) (hown : w.ownsRow base e 4 (.slice A 0 c) 0 [])
    (base' : Nat) (A' : Option Addr) (m c' : Nat) (vs' : List Value) (hx : a.eval x = .slice A' m c') (hown' : w.ownsRow base' e 4 (.slice A' m c') m vs') (h1 : ∀ u ∈ vs', u.oneCell' = true) (hlen : m * by_ ≤ 140737488355328) (hmax : m ≤ maxLen) (hbase : base ≤ w.heap.size)
    (h : ∀ A2 c2 w2, w2.ownsRow base e 4 (.slice A2 m c2) m vs' → w.grownBy w2 (Value.slice A 0 c).ownBlock →
      wpList P ops Q rest (a.put o.dst (.slice A2 m c2)) w2) : wpList P ops Q (o :: rest) a w :=
  wpList_app4o ht hI hz1 hgd s x ho base A 0 c [] hs hown base' A' m c' vs' hx hown' h1 (by rw [Nat.zero_add]; exact hlen) (by rw [Nat.zero_add]; exact hmax) hbase
    (fun A2 c2 w2 h2 h3 _ => by rw [Nat.zero_add] at h2 ⊢; rw [List.nil_append] at h2; exact h A2 c2 w2 h2 h3)
theorem made4 (w : World) (base : Nat) (hb : base ≤ w.heap.size) : (w.alloc (.cells #[] 68)).ownsRow base 68 4 (.slice (some ⟨w.heap.size, 0, none⟩) 0 0) 0 [] := by
  have := World.ownsRow_made (base := base) (e := 68) (size := 4) w #[] 0 hb (by simp [maxLen]) rfl
  simpa using this
/-- an empty row made, and all that another has appended: what holds behind it -/
theorem cp_done {w w2 : World} {base n c c2 : Nat} {A A2 : Option Addr} {l : List Gr.Stp} {vs : List Value} (h1 : w.ownsRow base 68 4 (.slice A n c) n vs) (h2 : l.length = n) (h3 : ∀ u ∈ vs, u.oneCell' = true) (h4 : Cels w 0 vs l)
    (ho : w2.ownsRow w.heap.size 68 4 (.slice A2 n c2) n vs) (hg : World.grownBy (w.alloc (.cells #[] 68)) w2 (Value.slice (some ⟨w.heap.size, 0, none⟩) 0 0).ownBlock) : SO w2 w.heap.size 0 A2 n c2 l ∧ Below w.heap.size w w2 := by
  have hb0 : Below w.heap.size w (w.alloc (.cells #[] 68)) := (Below.refl _ _).alloc (Nat.le_refl _) _
  have hk := Blk.new w 68 #[]
  refine ⟨SO.shut ho h2 h3 ((h4.below hb0).grown hg fun k hk' => ?_), hb0.grown hg hb0.size (fun k hk' => ?_)⟩
  · injection hk' with hk'
    subst hk'
    exact ⟨Nat.zero_le _, #[], _, (0, 0), hk, by decide⟩
  · have : w.heap.size = k := by injection hk'
    omega
/-- what the walk of an append of one step owes, no trail -/
theorem app_facts2 (w : World) (base n c : Nat) (A : Option Addr) (vs : List Value) (hb : base ≤ w.heap.size) (h3 : w.ownsRow base 68 4 (.slice A n c) n vs) (k f l : Int) (D : Option Addr) (dn dc : Nat) (x : Gr.Stp) (hx : stpCells x D dc = [.int .i64 k, .int .i64 f, .int .i64 l, .slice D dn dc]) :
    (∀ q, ((w.drewN q).alloc (.cells #[.int .i64 k, .int .i64 f, .int .i64 l, .slice D dn dc] 68)).ownsRow base 68 4 (.slice A n c) n vs) ∧
    (∀ q, ∀ j u, (stpCells x D dc)[j]? = some u → ((w.drewN q).alloc (.cells #[.int .i64 k, .int .i64 f, .int .i64 l, .slice D dn dc] 68)).cell? ((⟨w.heap.size, 0, none⟩ : Addr).add j) = some u) ∧
    (∀ q, base ≤ ((w.drewN q).alloc (.cells #[.int .i64 k, .int .i64 f, .int .i64 l, .slice D dn dc] 68)).heap.size) ∧ (∀ u ∈ stpCells x D dc, u.oneCell' = true) := by
  refine ⟨fun q => World.ownsRow.alloc (w := w.drewN q) h3 _, fun q j u hu => ?_, fun q => ?_, fun u hu => ?_⟩
  · have hh' : Blk ((w.drewN q).alloc (.cells #[.int .i64 k, .int .i64 f, .int .i64 l, .slice D dn dc] 68)) w.heap.size 68 #[.int .i64 k, .int .i64 f, .int .i64 l, .slice D dn dc] := Blk.new (w.drewN q) 68 #[.int .i64 k, .int .i64 f, .int .i64 l, .slice D dn dc]
    rw [addr_add, Nat.zero_add, hh'.cell]
    rw [hx, ← List.getElem?_toArray] at hu
    exact hu
  · have hz : (w.drewN q).heap.size = w.heap.size := rfl
    rw [World.size_alloc, hz]; omega
  · simp only [stpCells, List.mem_cons, List.not_mem_nil, or_false] at hu
    rcases hu with rfl | rfl | rfl | rfl <;> rfl
/-- a step appended, no trail -/
theorem app_done2 {w w1 w2 : World} {B base n c c2 cx : Nat} {A A2 Ax : Option Addr} {l : List Gr.Stp} {vs : List Value} (hB : B ≤ base) (hb1 : Below w.heap.size w w1) (h3 : w.ownsRow base 68 4 (.slice A n c) n vs) (h4 : l.length = n) (h5 : ∀ u ∈ vs, u.oneCell' = true) (h6 : Cels w 0 vs l) (x : Gr.Stp) (hx : x.d.length ≤ cx) (hd : Dat w1 0 Ax x.d)
    (hg : w1.grownBy w2 (Value.slice A n c).ownBlock) (ho : w2.ownsRow base 68 4 (.slice A2 (n + 1) c2) (n + 1) (vs ++ stpCells x Ax cx)) (hbw : B ≤ w.heap.size) : SO w2 base 0 A2 (n + 1) c2 (l ++ [x]) ∧ Below B w w2 := by
  have hrow : ∀ k, (Value.slice A n c).ownBlock = some k → B ≤ k ∧ ∃ cs T fr, w1.heap[k]? = some (.cells cs T fr) ∧ T ≠ 5 := fun k hk => by
    obtain ⟨hl, hb, cur, fr, hh⟩ := row_block h3 k hk
    exact ⟨by omega, cur, _, fr, (hb1.block k hl).trans hh, by decide⟩
  have h6' : Cels w2 0 (vs ++ stpCells x Ax cx) (l ++ [x]) := ((h6.below hb1).app (by rw [h4]; exact h3.1) hx hd).grown hg (fun k hk => ⟨Nat.zero_le _, (hrow k hk).2⟩)
  exact ⟨SO.shut ho (by simp [h4]) (one_app h5) h6', (hb1.mono hbw).grown hg (Nat.le_trans hbw hb1.size) (fun k hk => (hrow k hk).1)⟩
set_option maxRecDepth 100000 in
set_option maxHeartbeats 4000000 in
theorem rcopied_any (base n c : Nat) (w : World) (A : Option Addr) (l : List Gr.Stp) (o m : Int) (h : SO w base 0 A n c l) (hc : Cps l) (hm0 : 0 ≤ m) (hm : m ≤ 1000000) (hn : n ≤ 1000000) :
    Calls Tryd.prog 85 #[.slice A n c, .int .i64 o, .int .i64 m] w (LRet w (copyS l o m)) := by
  have hq : (n + 1) * 48 ≤ 140737488355328 := by omega
  have hq2 : n + 1 ≤ maxLen := by unfold maxLen; omega
  have hq3 : n * 48 ≤ 140737488355328 := by omega
  have hq4 : n ≤ maxLen := by unfold maxLen; omega
  obtain ⟨vs, h3, h4, h5, h6⟩ := h.opened
  have hb0 : Below w.heap.size w (w.alloc (.cells #[] 68)) := (Below.refl _ _).alloc (Nat.le_refl _) _
  have hm4 := made4 w w.heap.size (Nat.le_refl _)
  have hsz0 : w.heap.size ≤ (w.alloc (.cells #[] 68)).heap.size := hb0.size
  have HS := Lib.hid (And.intro hm4 (And.intro (World.ownsRow.alloc h3 (.cells #[] 68)) (And.intro h5 hsz0)))
  have HH := Lib.hid (And.intro h3 (And.intro h4 (And.intro h5 h6)))
  clear hm4 h3 h5 h6 hsz0 hb0 h
  rcases last_cases l with rfl | ⟨ini, x, rfl⟩
  · obtain rfl : n = 0 := by simpa using h4.symm
    rw [copyS_app [] o m (by simp)]
    clear h4
    go_enter Tryd.func85, Tryd.ntmps85
    go_wp2_with (at_builtin; refine wpList_cp4 Tryd.underlying65 infoS rfl rfl (.tmp 9) (.tmp 10) rfl w.heap.size (some ⟨w.heap.size, 0, none⟩) 0 rfl HS.out.1 base A 0 c vs rfl HS.out.2.1 HS.out.2.2.1 hq3 hq4 HS.out.2.2.2 ?_; intro A2 c2 w2 hown2 hg2)
    have HC := Lib.hid (cp_done HH.out.1 HH.out.2.1 HH.out.2.2.1 HH.out.2.2.2 hown2 hg2)
    have HX := Lib.hid (show Cels w2 0 vs ([] : List Gr.Stp) ∧ ([] : List Gr.Stp).length = 0 from ⟨by
      have hb0 : Below w.heap.size w (w.alloc (.cells #[] 68)) := (Below.refl _ _).alloc (Nat.le_refl _) _
      have hk := Blk.new w 68 #[]
      exact (HH.out.2.2.2.below hb0).grown hg2 fun k hk' => by
        injection hk' with hk'
        subst hk'
        exact ⟨Nat.zero_le _, #[], _, (0, 0), hk, by decide⟩, HH.out.2.1⟩)
    have HV := Lib.hid (app_facts2 w2 w.heap.size 0 c2 A2 vs HC.out.2.size hown2 1 o m none 0 0 ⟨1, o, m, []⟩ rfl)
    clear hg2
    go_quiet (fail)
    go_wp2_with (at_builtin; refine wpList_app4 Tryd.underlying65 infoS rfl rfl (.tmp 52) (.tmp 56) rfl w.heap.size A2 0 c2 vs rfl (HV.out.1 _) ⟨w2.heap.size, 0, none⟩ 1 1 (stpCells ⟨1, o, m, []⟩ none 0) rfl rfl (HV.out.2.1 _) HV.out.2.2.2 hq hq2 (HV.out.2.2.1 _) ?_; intro A3 c3 w3 hown3 hg3 _)
    go_ret
    obtain ⟨f1, f2⟩ := app_done2 (Nat.le_refl _) ((below_drewN (Below.refl _ w2) nq).alloc (Nat.le_refl _) _) hown2 HX.out.2 HH.out.2.2.1 HX.out.1 ⟨1, o, m, []⟩ (Nat.zero_le _) (Dat.nil _ _ _) hg3 hown3 HC.out.2.size
    exact ⟨⟨_, _, _, rfl, SO.cap f1, f1⟩, HC.out.2.trans f2⟩
  · have hnl : n = ini.length + 1 := by rw [← h4]; simp
    have hw1 : IntKind.i64.wrap ((n : Int) - 1) = (ini.length : Int) := by rw [IntKind.wrap_i64]; omega
    have hgt : ini.length < n := by omega
    have HN := Lib.hid (And.intro hnl h4)
    clear hnl h4
    by_cases hk : x.k = 1
    · have hb := hc x (by simp) hk
      by_cases ho : x.f + x.l = o
      · have hx : copyS (ini ++ [x]) o m = ini ++ [⟨x.k, x.f, x.l + m, x.d⟩] := by
          unfold copyS
          rw [List.getLast?_concat]
          simp only
          rw [if_pos ⟨hk, ho⟩, List.dropLast_concat, hk]
        rw [hx]
        obtain ⟨b1, b2, b3, b4⟩ := hb
        have hw2 : IntKind.i64.wrap (x.f + x.l) = x.f + x.l := by rw [IntKind.wrap_i64]; omega
        have hw3 : IntKind.i64.wrap (x.l + m) = x.l + m := by rw [IntKind.wrap_i64]; omega
        have z1 : decide (x.f + x.l = o) = true := by simpa using ho
        have z2 : (x.f + x.l == o) = true := by simpa using ho
        have HK := Lib.hid (And.intro hk ho)
        clear hx hc hk ho
        go_enter Tryd.func85, Tryd.ntmps85
        go_wp2_with (at_builtin; refine wpList_cp4 Tryd.underlying65 infoS rfl rfl (.tmp 9) (.tmp 10) rfl w.heap.size (some ⟨w.heap.size, 0, none⟩) 0 rfl HS.out.1 base A n c vs rfl HS.out.2.1 HS.out.2.2.1 hq3 hq4 HS.out.2.2.2 ?_; intro A2 c2 w2 hown2 hg2)
        have HC := Lib.hid (cp_done HH.out.1 HH.out.2.1 HH.out.2.2.1 HH.out.2.2.2 hown2 hg2)
        have HX := Lib.hid (show Cels w2 0 vs (ini ++ [x]) ∧ (ini ++ [x]).length = n from ⟨by
          have hb0 : Below w.heap.size w (w.alloc (.cells #[] 68)) := (Below.refl _ _).alloc (Nat.le_refl _) _
          have hk := Blk.new w 68 #[]
          exact (HH.out.2.2.2.below hb0).grown hg2 fun k hk' => by
            injection hk' with hk'
            subst hk'
            exact ⟨Nat.zero_le _, #[], _, (0, 0), hk, by decide⟩, HH.out.2.1⟩)
        have HV := Lib.hid (app_facts2 w2 w.heap.size n c2 A2 vs HC.out.2.size hown2 1 o m none 0 0 ⟨1, o, m, []⟩ rfl)
        clear hg2
        obtain ⟨g, Al, cl, rfl, hn1, hnc, hgl, hgb, s0, s1, s2, s3, hfr, hdc, hdat⟩ := HC.out.1.last_
        rw [HK.out.1] at s0
        have hfr2 := hfr (ini.length * 4 + 2)
        have HSL := Lib.hid (fun q => SO.setLen (w := w2.drewN q) HC.out.1 rfl (Nat.zero_le _) (x.l + m))
        clear hn1 hfr hdc hdat s3
        go_quiet (fail)
        go_wp2_with fail
        go_ret
        have hgr := grown_setC (w2.drewN nq) g (ini.length * 4 + 2) (.int .i64 (x.l + m))
        exact ⟨⟨_, _, _, rfl, hnc, HSL.out nq⟩, (HC.out.2.trans (below_drewN (Below.refl _ w2) nq)).grown hgr HC.out.2.size (fun j hj => by injection hj; omega)⟩
      · have hx := copyS_app (ini ++ [x]) o m (by rw [List.getLast?_concat]; rintro y hy; injection hy with hy; subst hy; exact fun h => ho h.2)
        rw [hx]
        obtain ⟨b1, b2, b3, b4⟩ := hb
        have hw2 : IntKind.i64.wrap (x.f + x.l) = x.f + x.l := by rw [IntKind.wrap_i64]; omega
        have z1 : decide (x.f + x.l = o) = false := by simpa using ho
        have z2 : (x.f + x.l == o) = false := by simpa using ho
        have HK := Lib.hid hk
        clear hx hc hk
        go_enter Tryd.func85, Tryd.ntmps85
        go_wp2_with (at_builtin; refine wpList_cp4 Tryd.underlying65 infoS rfl rfl (.tmp 9) (.tmp 10) rfl w.heap.size (some ⟨w.heap.size, 0, none⟩) 0 rfl HS.out.1 base A n c vs rfl HS.out.2.1 HS.out.2.2.1 hq3 hq4 HS.out.2.2.2 ?_; intro A2 c2 w2 hown2 hg2)
        have HC := Lib.hid (cp_done HH.out.1 HH.out.2.1 HH.out.2.2.1 HH.out.2.2.2 hown2 hg2)
        have HX := Lib.hid (show Cels w2 0 vs (ini ++ [x]) ∧ (ini ++ [x]).length = n from ⟨by
          have hb0 : Below w.heap.size w (w.alloc (.cells #[] 68)) := (Below.refl _ _).alloc (Nat.le_refl _) _
          have hk := Blk.new w 68 #[]
          exact (HH.out.2.2.2.below hb0).grown hg2 fun k hk' => by
            injection hk' with hk'
            subst hk'
            exact ⟨Nat.zero_le _, #[], _, (0, 0), hk, by decide⟩, HH.out.2.1⟩)
        have HV := Lib.hid (app_facts2 w2 w.heap.size n c2 A2 vs HC.out.2.size hown2 1 o m none 0 0 ⟨1, o, m, []⟩ rfl)
        clear hg2
        obtain ⟨g, Al, cl, rfl, hn1, hnc, hgl, hgb, s0, s1, s2, s3, hfr, hdc, hdat⟩ := HC.out.1.last_
        rw [HK.out] at s0
        clear hn1 hfr hdc hdat s3
        go_quiet (fail)
        go_wp2_with (at_builtin; refine wpList_app4 Tryd.underlying65 infoS rfl rfl (.tmp 52) (.tmp 56) rfl w.heap.size (some ⟨g, 0, none⟩) n c2 vs rfl (HV.out.1 _) ⟨w2.heap.size, 0, none⟩ 1 1 (stpCells ⟨1, o, m, []⟩ none 0) rfl rfl (HV.out.2.1 _) HV.out.2.2.2 hq hq2 (HV.out.2.2.1 _) ?_; intro A3 c3 w3 hown3 hg3 _)
        go_ret
        obtain ⟨f1, f2⟩ := app_done2 (Nat.le_refl _) ((below_drewN (Below.refl _ w2) nq).alloc (Nat.le_refl _) _) hown2 HX.out.2 HH.out.2.2.1 HX.out.1 ⟨1, o, m, []⟩ (Nat.zero_le _) (Dat.nil _ _ _) hg3 hown3 HC.out.2.size
        exact ⟨⟨_, _, _, rfl, SO.cap f1, f1⟩, HC.out.2.trans f2⟩
    · have hx := copyS_app (ini ++ [x]) o m (by rw [List.getLast?_concat]; rintro y hy; injection hy with hy; subst hy; exact fun h => hk h.1)
      rw [hx]
      have z1 : decide (x.k = 1) = false := by simpa using hk
      have z2 : (x.k == 1) = false := by simpa using hk
      clear hx hc
      go_enter Tryd.func85, Tryd.ntmps85
      go_wp2_with (at_builtin; refine wpList_cp4 Tryd.underlying65 infoS rfl rfl (.tmp 9) (.tmp 10) rfl w.heap.size (some ⟨w.heap.size, 0, none⟩) 0 rfl HS.out.1 base A n c vs rfl HS.out.2.1 HS.out.2.2.1 hq3 hq4 HS.out.2.2.2 ?_; intro A2 c2 w2 hown2 hg2)
      have HC := Lib.hid (cp_done HH.out.1 HH.out.2.1 HH.out.2.2.1 HH.out.2.2.2 hown2 hg2)
      have HX := Lib.hid (show Cels w2 0 vs (ini ++ [x]) ∧ (ini ++ [x]).length = n from ⟨by
        have hb0 : Below w.heap.size w (w.alloc (.cells #[] 68)) := (Below.refl _ _).alloc (Nat.le_refl _) _
        have hk := Blk.new w 68 #[]
        exact (HH.out.2.2.2.below hb0).grown hg2 fun k hk' => by
          injection hk' with hk'
          subst hk'
          exact ⟨Nat.zero_le _, #[], _, (0, 0), hk, by decide⟩, HH.out.2.1⟩)
      have HV := Lib.hid (app_facts2 w2 w.heap.size n c2 A2 vs HC.out.2.size hown2 1 o m none 0 0 ⟨1, o, m, []⟩ rfl)
      clear hg2
      obtain ⟨g, Al, cl, rfl, hn1, hnc, hgl, hgb, s0, s1, s2, s3, hfr, hdc, hdat⟩ := HC.out.1.last_
      clear hn1 hfr hdc hdat s3
      go_quiet (fail)
      go_wp2_with (at_builtin; refine wpList_app4 Tryd.underlying65 infoS rfl rfl (.tmp 52) (.tmp 56) rfl w.heap.size (some ⟨g, 0, none⟩) n c2 vs rfl (HV.out.1 _) ⟨w2.heap.size, 0, none⟩ 1 1 (stpCells ⟨1, o, m, []⟩ none 0) rfl rfl (HV.out.2.1 _) HV.out.2.2.2 hq hq2 (HV.out.2.2.1 _) ?_; intro A3 c3 w3 hown3 hg3 _)
      go_ret
      obtain ⟨f1, f2⟩ := app_done2 (Nat.le_refl _) ((below_drewN (Below.refl _ w2) nq).alloc (Nat.le_refl _) _) hown2 HX.out.2 HH.out.2.2.1 HX.out.1 ⟨1, o, m, []⟩ (Nat.zero_le _) (Dat.nil _ _ _) hg3 hown3 HC.out.2.size
      exact ⟨⟨_, _, _, rfl, SO.cap f1, f1⟩, HC.out.2.trans f2⟩
end Go.Proofs.YtmnanbcinfdbaaaDoor
end

section
namespace Go.Proofs.YtmnanbcinfdbaaaDoor
open Go.RowKit Go.Proofs.U
set_option linter.unusedVariables false
/-- append of bytes to an empty slice -/
theorem wpList_cpB {P : Program} {w : World} {t e : TypeId} (hB : Bt P t e) {ops : Array Oper} {rest : List Oper} {o : Oper} {a : Act} {Q : Exit → Act → World → Prop} (hgd : o.guard = none) (s x : Operand)
    (ho : o.op = .call { callee := .builtin .append, args := #[s, x], argTypes := #[t, t] })
    (base : Nat) (A : Option Addr) (c : Nat) (hs : a.eval s = .slice A 0 c) (hown : U.Own w base e A 0 c [])
    (B : Nat) (A' : Option Addr) (m c' : Nat) (bs' : List UInt8) (hx : a.eval x = .slice A' m c') (hr : BS w B A' m bs') (hlen : m ≤ 140737488355328) (hbase : base ≤ w.heap.size)
    (h : ∀ A2 c2 w2, U.Own w2 base e A2 m c2 bs' → w.grownBy w2 (Value.slice A 0 c).ownBlock → wpList P ops Q rest (a.put o.dst (.slice A2 m c2)) w2) : wpList P ops Q (o :: rest) a w :=
  wpList_app hB hgd s x ho base A 0 c [] hs hown B A' m c' bs' hx hr (by omega) hbase (fun A2 c2 w2 h2 h3 _ => by rw [Nat.zero_add] at h2 ⊢; rw [List.nil_append] at h2; exact h A2 c2 w2 h2 h3)
theorem fresh_byte (w : World) (ch : UInt8) (o : Obj) : Below w.heap.size w ((w.alloc (.cells #[.int .u8 (ch.toNat : Int)] 5)).alloc o) ∧ Dat ((w.alloc (.cells #[.int .u8 (ch.toNat : Int)] 5)).alloc o) 0 (some ⟨w.heap.size, 0, none⟩) [ch] := by
  have h1 : Below (w.alloc (.cells #[.int .u8 (ch.toNat : Int)] 5)).heap.size (w.alloc (.cells #[.int .u8 (ch.toNat : Int)] 5)) ((w.alloc (.cells #[.int .u8 (ch.toNat : Int)] 5)).alloc o) := (Below.refl _ _).alloc (Nat.le_refl _) _
  have hb : Blk (w.alloc (.cells #[.int .u8 (ch.toNat : Int)] 5)) w.heap.size 5 #[.int .u8 (ch.toNat : Int)] := Blk.new w _ _
  have hs : BS (w.alloc (.cells #[.int .u8 (ch.toNat : Int)] 5)) (w.alloc (.cells #[.int .u8 (ch.toNat : Int)] 5)).heap.size (some ⟨w.heap.size, 0, none⟩) 1 [ch] := BS.fresh w 5 [ch]
  refine ⟨((Below.refl _ _).alloc (Nat.le_refl _) _).alloc (by simp) _, ⟨(hs.below h1).more h1.size, fun _ a ha => .inr ?_⟩⟩
  injection ha with ha
  subst ha
  exact ⟨_, (0, 0), hb.stay h1⟩
theorem cp_done2 {w w2 : World} {base n c c2 : Nat} {A A2 : Option Addr} {l : List Gr.Stp} {vs : List Value} (h1 : w.ownsRow base 68 4 (.slice A n c) n vs) (h2 : l.length = n) (h3 : ∀ u ∈ vs, u.oneCell' = true) (h4 : Cels w 0 vs l)
    (ho : w2.ownsRow w.heap.size 68 4 (.slice A2 n c2) n vs) (hg : World.grownBy (w.alloc (.cells #[] 68)) w2 (Value.slice (some ⟨w.heap.size, 0, none⟩) 0 0).ownBlock) : SO w2 w.heap.size 0 A2 n c2 l ∧ Below w.heap.size w w2 ∧ Cels w2 0 vs l := by
  have h := cp_done h1 h2 h3 h4 ho hg
  refine ⟨h.1, h.2, ?_⟩
  have hb0 : Below w.heap.size w (w.alloc (.cells #[] 68)) := (Below.refl _ _).alloc (Nat.le_refl _) _
  have hk := Blk.new w 68 #[]
  exact (h4.below hb0).grown hg fun k hk' => by
    injection hk' with hk'
    subst hk'
    exact ⟨Nat.zero_le _, #[], _, (0, 0), hk, by decide⟩
theorem app_facts2' (w : World) (base n c : Nat) (A : Option Addr) (vs : List Value) (hb : base ≤ w.heap.size) (h3 : w.ownsRow base 68 4 (.slice A n c) n vs) (ch : UInt8) :
    ((w.alloc (.cells #[.int .u8 (ch.toNat : Int)] 5)).alloc (.cells #[.int .i64 2, .int .i64 0, .int .i64 1, .slice (some ⟨w.heap.size, 0, none⟩) 1 1] 68)).ownsRow base 68 4 (.slice A n c) n vs ∧
    (∀ j u, (stpCells ⟨2, 0, 1, [ch]⟩ (some ⟨w.heap.size, 0, none⟩) 1)[j]? = some u → ((w.alloc (.cells #[.int .u8 (ch.toNat : Int)] 5)).alloc (.cells #[.int .i64 2, .int .i64 0, .int .i64 1, .slice (some ⟨w.heap.size, 0, none⟩) 1 1] 68)).cell? ((⟨w.heap.size + 1, 0, none⟩ : Addr).add j) = some u) ∧
    base ≤ ((w.alloc (.cells #[.int .u8 (ch.toNat : Int)] 5)).alloc (.cells #[.int .i64 2, .int .i64 0, .int .i64 1, .slice (some ⟨w.heap.size, 0, none⟩) 1 1] 68)).heap.size ∧ (∀ u ∈ stpCells ⟨2, 0, 1, [ch]⟩ (some ⟨w.heap.size, 0, none⟩) 1, u.oneCell' = true) := by
  have h := app_facts2 (w.alloc (.cells #[.int .u8 (ch.toNat : Int)] 5)) base n c A vs (Nat.le_trans hb (by simp)) (World.ownsRow.alloc h3 _) 2 0 1 (some ⟨w.heap.size, 0, none⟩) 1 1 ⟨2, 0, 1, [ch]⟩ rfl
  rw [World.size_alloc] at h
  exact ⟨h.1 0, h.2.1 0, h.2.2.1 0, h.2.2.2⟩
theorem tell_app (l : List Gr.Stp) (c : UInt8) (h : Shut l) : tell l c = l ++ [⟨2, 0, 1, [c]⟩] := tell_shut l c h
set_option maxRecDepth 100000 in
set_option maxHeartbeats 8000000 in
theorem rtold_any (base n c : Nat) (w : World) (A : Option Addr) (l : List Gr.Stp) (ch : UInt8) (h : SO w base 0 A n c l) (hL : Lits l) (hn : n ≤ 1000000) :
    Calls Tryd.prog 86 #[.slice A n c, .int .u8 (ch.toNat : Int)] w (LRet w (tell l ch)) := by
  have hq : (n + 1) * 48 ≤ 140737488355328 := by omega
  have hq2 : n + 1 ≤ maxLen := by unfold maxLen; omega
  have hq3 : n * 48 ≤ 140737488355328 := by omega
  have hq4 : n ≤ maxLen := by unfold maxLen; omega
  obtain ⟨vs, h3, h4, h5, h6⟩ := h.opened
  have hb0 : Below w.heap.size w (w.alloc (.cells #[] 68)) := (Below.refl _ _).alloc (Nat.le_refl _) _
  have hm4 := made4 w w.heap.size (Nat.le_refl _)
  have hsz0 : w.heap.size ≤ (w.alloc (.cells #[] 68)).heap.size := hb0.size
  have HS := Lib.hid (And.intro hm4 (And.intro (World.ownsRow.alloc h3 (.cells #[] 68)) (And.intro h5 hsz0)))
  have HH := Lib.hid (And.intro h3 (And.intro h4 (And.intro h5 h6)))
  clear hm4 h3 h5 h6 hsz0 hb0 h
  rcases last_cases l with rfl | ⟨ini, x, rfl⟩
  · obtain rfl : n = 0 := by simpa using h4.symm
    rw [tell_app [] ch (by intro s hs; simp at hs)]
    clear h4
    go_enter Tryd.func86, Tryd.ntmps86
    go_wp2_with (first | (at_builtin; refine wpList_cp4 Tryd.underlying65 infoS rfl rfl (.tmp 7) (.tmp 8) rfl w.heap.size (some ⟨w.heap.size, 0, none⟩) 0 rfl HS.out.1 base A 0 c vs rfl HS.out.2.1 HS.out.2.2.1 hq3 hq4 HS.out.2.2.2 ?_; intro A2 c2 w2 hown2 hg2; have HC := Lib.hid (cp_done2 HH.out.1 HH.out.2.1 HH.out.2.2.1 HH.out.2.2.2 hown2 hg2); clear hg2; have HV := Lib.hid (app_facts2' w2 w.heap.size 0 c2 A2 vs HC.out.2.1.size hown2 ch)) | (at_builtin; refine wpList_app4 Tryd.underlying65 infoS rfl rfl (.tmp 56) (.tmp 60) rfl w.heap.size A2 0 c2 vs rfl HV.out.1 ⟨w2.heap.size + 1, 0, none⟩ 1 1 (stpCells ⟨2, 0, 1, [ch]⟩ (some ⟨w2.heap.size, 0, none⟩) 1) rfl rfl HV.out.2.1 HV.out.2.2.2 hq hq2 HV.out.2.2.1 ?_; intro A3 c3 w3 hown3 hg3 _))
    go_ret
    obtain ⟨f1, f2⟩ := app_done2 (B := w.heap.size) (Nat.le_refl _) (fresh_byte w2 ch _).1 hown2 HH.out.2.1 HH.out.2.2.1 HC.out.2.2 ⟨2, 0, 1, [ch]⟩ (Nat.le_refl 1) (fresh_byte w2 ch _).2 hg3 hown3 HC.out.2.1.size
    exact ⟨⟨_, _, _, rfl, SO.cap f1, by first | exact f1 | simpa using f1⟩, HC.out.2.1.trans f2⟩
  · have hnl : n = ini.length + 1 := by rw [← h4]; simp
    have hw1 : IntKind.i64.wrap ((n : Int) - 1) = (ini.length : Int) := by rw [IntKind.wrap_i64]; omega
    have hgt : ini.length < n := by omega
    have HN := Lib.hid (And.intro hnl h4)
    clear hnl h4
    by_cases hk : x.k = 2
    · have hb := hL x (by simp) hk
      by_cases ho : x.l < 128
      · have hx : tell (ini ++ [x]) ch = ini ++ [⟨x.k, x.f, x.l + 1, x.d ++ [ch]⟩] := by
          unfold tell
          rw [List.getLast?_concat]
          simp only
          rw [if_pos ⟨hk, ho⟩, List.dropLast_concat, hk]
        rw [hx]
        have hw3 : IntKind.i64.wrap (x.l + 1) = x.l + 1 := by rw [IntKind.wrap_i64]; omega
        have z1 : decide (x.l < 128) = true := by simpa using ho
        have HK := Lib.hid (And.intro hk hb)
        clear hx hL hk hb
        have hlen5 : x.d.length ≤ 140737488355328 := by have := HK.out.2; omega
        have hlen6 : x.d.length + 1 ≤ 140737488355328 := by have := HK.out.2; omega
        have HZ := Lib.hid (fun w : World => (And.intro (by simp) (fun o => by simp) : w.heap.size ≤ (w.alloc (.cells #[] 5)).heap.size ∧ ∀ o : Obj, w.heap.size ≤ (w.alloc o).heap.size))
        obtain ⟨xl, hxl⟩ : ∃ xl, xl = x.l := ⟨_, rfl⟩
        go_enter Tryd.func86, Tryd.ntmps86
        go_wp2_with (first | (at_builtin; refine wpList_cp4 Tryd.underlying65 infoS rfl rfl (.tmp 7) (.tmp 8) rfl w.heap.size (some ⟨w.heap.size, 0, none⟩) 0 rfl HS.out.1 base A n c vs rfl HS.out.2.1 HS.out.2.2.1 hq3 hq4 HS.out.2.2.2 ?_; intro A2 c2 w2 hown2 hg2; have HC := Lib.hid (cp_done2 HH.out.1 HH.out.2.1 HH.out.2.2.1 HH.out.2.2.2 hown2 hg2); clear hg2; obtain ⟨g, Al, cl, rfl, hn1, hnc, hgl, hgb, s0, s1, s2, s3, hfr, hdc, hdat⟩ := HC.out.1.last_; rw [HK.out.1] at s0; have HF := Lib.hid (And.intro hfr (And.intro hdc hdat)); clear hn1 hfr hdc hdat) | (at_builtin; refine wpList_cpB bt rfl (.tmp 33) (.tmp 38) rfl w2.heap.size (some ⟨w2.heap.size, 0, none⟩) 0 rfl (U.Own.made w2 _ _ (Nat.le_refl _)) _ Al x.d.length cl x.d rfl (HF.out.2.2.below ((Below.refl w2.heap.size w2).alloc (Nat.le_refl _) _)).1 hlen5 (HZ.out w2).1 ?_; intro A5 c5 w5 hown5 hg5; have hb5 : Below w2.heap.size w2 w5 := below_of_grown ((Below.refl _ _).alloc (Nat.le_refl _) _) (HZ.out w2).1 (U.Own.made w2 _ _ (Nat.le_refl _)) (Nat.le_refl _) hg5; clear hg5) | (at_builtin; refine wpList_app bt rfl (.tmp 39) (.tmp 41) rfl w2.heap.size A5 x.d.length c5 x.d rfl (hown5.alloc _) _ (some ⟨w5.heap.size, 0, none⟩) 1 1 [ch] rfl (BS.fresh w5 5 [ch]) hlen6 (Nat.le_trans hb5.size ((HZ.out w5).2 _)) ?_; intro A7 c7 w7 hown7 hg7 _; have hb7 : Below w2.heap.size w2 w7 := below_of_grown (hb5.alloc hb5.size _) (Nat.le_trans hb5.size ((HZ.out w5).2 _)) (hown5.alloc _) (Nat.le_refl _) hg7; clear hg7; have h8 := HC.out.1.below hb7; obtain ⟨g7, Al7, cl7, hA7, -, -, -, -, -, -, -, t3, hfr7, -, -⟩ := h8.last_; obtain rfl : g = g7 := (by injection hA7 with hA7; injection hA7); have e1 := hfr7 (ini.length * 4 + 3); have h9 := SO.setData h8 rfl (Nat.zero_le _) (show (x.d ++ [ch]).length = x.d.length + 1 from (by simp)) (U.Own.le hown7) (Dat.own hown7); obtain ⟨g9, Al9, cl9, hA9, -, -, -, -, -, -, r2, -, hfr9, -, -⟩ := h9.last_; obtain rfl : g = g9 := (by injection hA9 with hA9; injection hA9); have e2 := hfr9 (ini.length * 4 + 2); simp only at r2; have H9 := Lib.hid (And.intro h9 hb7); clear hA7 hA9 hfr7 hfr9 h8 h9))
        go_ret
        have hz2 := HC.out.2.1.size
        have hz7 := hb7.size
        have q1 : Below w.heap.size w (w7.setCell ⟨g, ini.length * 4 + 3, none⟩ (.slice A7 (x.d.length + 1) c7)) := (HC.out.2.1.trans (hb7.mono hz2)).grown (grown_setC w7 g _ _) (by omega) (fun j hj => by injection hj; omega)
        exact ⟨⟨_, _, _, rfl, hnc, H9.out.1.setLen rfl (Nat.zero_le _) (x.l + 1)⟩, q1.grown (grown_setC _ g _ _) q1.size (fun j hj => by injection hj; omega)⟩
      · have hx := tell_app (ini ++ [x]) ch (by intro s hs; rw [List.getLast?_concat] at hs; injection hs with hs; subst hs; exact fun h => ho h.2)
        rw [hx]
        have z1 : decide (x.l < 128) = false := by simpa using ho
        have HK := Lib.hid hk
        clear hx hL hk hb
        go_enter Tryd.func86, Tryd.ntmps86
        go_wp2_with (first | (at_builtin; refine wpList_cp4 Tryd.underlying65 infoS rfl rfl (.tmp 7) (.tmp 8) rfl w.heap.size (some ⟨w.heap.size, 0, none⟩) 0 rfl HS.out.1 base A n c vs rfl HS.out.2.1 HS.out.2.2.1 hq3 hq4 HS.out.2.2.2 ?_; intro A2 c2 w2 hown2 hg2; have HC := Lib.hid (cp_done2 HH.out.1 HH.out.2.1 HH.out.2.2.1 HH.out.2.2.2 hown2 hg2); clear hg2; obtain ⟨g, Al, cl, rfl, hn1, hnc, hgl, hgb, s0, s1, s2, s3, hfr, hdc, hdat⟩ := HC.out.1.last_; rw [HK.out] at s0; have HF := Lib.hid (And.intro hfr (And.intro hdc hdat)); clear hn1 hfr hdc hdat; have HV := Lib.hid (app_facts2' w2 w.heap.size n c2 (some ⟨g, 0, none⟩) vs HC.out.2.1.size hown2 ch)) | (at_builtin; refine wpList_app4 Tryd.underlying65 infoS rfl rfl (.tmp 56) (.tmp 60) rfl w.heap.size (some ⟨g, 0, none⟩) n c2 vs rfl HV.out.1 ⟨w2.heap.size + 1, 0, none⟩ 1 1 (stpCells ⟨2, 0, 1, [ch]⟩ (some ⟨w2.heap.size, 0, none⟩) 1) rfl rfl HV.out.2.1 HV.out.2.2.2 hq hq2 HV.out.2.2.1 ?_; intro A3 c3 w3 hown3 hg3 _))
        go_ret
        obtain ⟨f1, f2⟩ := app_done2 (B := w.heap.size) (Nat.le_refl _) (fresh_byte w2 ch _).1 hown2 HH.out.2.1 HH.out.2.2.1 HC.out.2.2 ⟨2, 0, 1, [ch]⟩ (Nat.le_refl 1) (fresh_byte w2 ch _).2 hg3 hown3 HC.out.2.1.size
        exact ⟨⟨_, _, _, rfl, SO.cap f1, by first | exact f1 | simpa using f1⟩, HC.out.2.1.trans f2⟩
    · have hx := tell_app (ini ++ [x]) ch (by intro s hs; rw [List.getLast?_concat] at hs; injection hs with hs; subst hs; exact fun h => hk h.1)
      rw [hx]
      have z1 : decide (x.k = 2) = false := by simpa using hk
      have z2 : (x.k == 2) = false := by simpa using hk
      clear hx hL
      go_enter Tryd.func86, Tryd.ntmps86
      go_wp2_with (first | (at_builtin; refine wpList_cp4 Tryd.underlying65 infoS rfl rfl (.tmp 7) (.tmp 8) rfl w.heap.size (some ⟨w.heap.size, 0, none⟩) 0 rfl HS.out.1 base A n c vs rfl HS.out.2.1 HS.out.2.2.1 hq3 hq4 HS.out.2.2.2 ?_; intro A2 c2 w2 hown2 hg2; have HC := Lib.hid (cp_done2 HH.out.1 HH.out.2.1 HH.out.2.2.1 HH.out.2.2.2 hown2 hg2); clear hg2; obtain ⟨g, Al, cl, rfl, hn1, hnc, hgl, hgb, s0, s1, s2, s3, hfr, hdc, hdat⟩ := HC.out.1.last_; have HF := Lib.hid (And.intro hfr (And.intro hdc hdat)); clear hn1 hfr hdc hdat; have HV := Lib.hid (app_facts2' w2 w.heap.size n c2 (some ⟨g, 0, none⟩) vs HC.out.2.1.size hown2 ch)) | (at_builtin; refine wpList_app4 Tryd.underlying65 infoS rfl rfl (.tmp 56) (.tmp 60) rfl w.heap.size (some ⟨g, 0, none⟩) n c2 vs rfl HV.out.1 ⟨w2.heap.size + 1, 0, none⟩ 1 1 (stpCells ⟨2, 0, 1, [ch]⟩ (some ⟨w2.heap.size, 0, none⟩) 1) rfl rfl HV.out.2.1 HV.out.2.2.2 hq hq2 HV.out.2.2.1 ?_; intro A3 c3 w3 hown3 hg3 _))
      go_ret
      obtain ⟨f1, f2⟩ := app_done2 (B := w.heap.size) (Nat.le_refl _) (fresh_byte w2 ch _).1 hown2 HH.out.2.1 HH.out.2.2.1 HC.out.2.2 ⟨2, 0, 1, [ch]⟩ (Nat.le_refl 1) (fresh_byte w2 ch _).2 hg3 hown3 HC.out.2.1.size
      exact ⟨⟨_, _, _, rfl, SO.cap f1, by first | exact f1 | simpa using f1⟩, HC.out.2.1.trans f2⟩
end Go.Proofs.YtmnanbcinfdbaaaDoor
end
