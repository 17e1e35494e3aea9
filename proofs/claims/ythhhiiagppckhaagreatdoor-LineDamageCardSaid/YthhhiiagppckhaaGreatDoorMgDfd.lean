/- The walk of intake.Feed; conditions: none beyond its hypotheses. -/
import Derived.Test.YthhhiiagppckhaaGreatDoorMgDif
import Derived.Test.YthhhiiagppckhaaGreatDoorMgSl
import Derived.Deep.LoopGhost
import Derived.WalkMore
import Derived.Deep.QuietTactic
import Derived.BigQuiet
set_option linter.unusedSimpArgs false
set_option linter.unusedVariables false
section
namespace Go.Proofs.YthhhiiagppckhaaGreatDoor
open Go.RowKit Go.Proofs.U
set_option linter.unusedVariables false

theorem infoSS : (Tryz.prog.info? 24).map (fun i => (i.zero, i.size, i.bytes)) = some (some (.slice none 0 0), 1, 24) := by kernel_rfl
theorem Nib.only {w w' : World} {g : Nat} (h : Nib w) (hg : w.grownBy w' (some g)) (hne : g ≠ 1) : Nib w' :=
  fun j hj => (World.cell?_of_block (hg.block _ (World.block_lt_of_cell? w _ (h j hj)) (fun e => hne (by injection e with e; exact e.symm)))).trans (h j hj)
theorem Ink.ne_nib {w : World} {g : Nat} {P : List UInt8} {e : Int} (h : Ink w g P e) (hT : Nib w) : g ≠ 1 := by
  rintro rfl
  obtain ⟨tl, hl, hb⟩ := h
  have h0 := hT 0 (by omega)
  rw [hb.cell] at h0
  obtain ⟨x, r, hx⟩ : ∃ x r, P ++ tl = x :: r := by
    cases hp : P ++ tl with
    | nil => have := congrArg List.length hp; rw [List.length_append, List.length_nil] at this; omega
    | cons x r => exact ⟨x, r, rfl⟩
  unfold inkL at h0
  rw [hx] at h0
  simp [bv] at h0
theorem Ink.fault {w : World} {g : Nat} {P : List UInt8} {e : Int} (h : Ink w g P e) (e' : Int) :
    Ink ((w.setCell ⟨g, 1410, none⟩ (.int .i64 0)).setCell ⟨g, 1411, none⟩ (.int .i64 e')) g [] e' := h.set2 [] e' rfl
theorem Ink.empty {w : World} {g : Nat} {P : List UInt8} {e : Int} (h : Ink w g P e) : Ink (w.setCell ⟨g, 1410, none⟩ (.int .i64 0)) g [] e := by
  obtain ⟨tl, hl, hb⟩ := h
  refine ⟨P ++ tl, by simpa using hl, ?_⟩
  have := hb.set_ 1410 (.int .i64 0)
  have he : (inkL [] (P ++ tl) e).toArray = (inkL P tl e).toArray.setIfInBounds 1410 (.int .i64 0) := by
    unfold inkL
    rw [List.setIfInBounds_toArray, List.set_append_right _ _ (by simp; omega)]
    simp [hl]
  rw [he]; exact this

/-- what a feed hands back: what went in, in frames -/
def FeedRet (w : World) (g : Nat) (a : List UInt8) (en : Ending) (w' : World) : Prop :=
  ∃ o r e A c, Goes a o r e ∧ en = .returned (.tuple #[.slice A o.length c, .int .i64 e]) ∧ Outs w' w.heap.size 24 5 A o.length c o ∧ Ink w' g r e ∧ w.grownBy w' (some g)
/-- what holds at a round's head -/
def FeedAt (w : World) (g : Nat) (a : List UInt8) (N k : Nat) (b t : Value) (wr : World) : Prop :=
  ∃ P bs o A c A' c', bs.length = k ∧ b = .slice A k c ∧ t = .slice A' o.length c' ∧ BS wr w.heap.size A k bs ∧ Off g A k ∧ k ≤ c ∧ Ink wr g P 0 ∧ Part P ∧ Outs wr w.heap.size 24 5 A' o.length c' o ∧ w.grownBy wr (some g) ∧
    (∀ o' r e, Goes (P ++ bs) o' r e → Goes a (o ++ o') r e) ∧ 10 * o.length + P.length + k ≤ N

/-- one round's ways -/
theorem feed_ways (P bs : List UInt8) (hP : Part P) (k : Nat) (hk : fneed P = (k, 0)) :
    (∃ p n, ftake (P ++ bs.take k) = (p, n, 0) ∧ 10 ≤ (P ++ bs.take k).length ∧ bs.length - k < bs.length ∧ ∀ o r e, Goes (bs.drop k) o r e → Goes (P ++ bs) (p :: o) r e) ∨
    (∃ e, ftake (P ++ bs.take k) = ([], 0, e) ∧ e ≠ 0 ∧ e ≠ 11 ∧ Goes (P ++ bs) [] [] e) ∨
    (ftake (P ++ bs.take k) = ([], 0, 11) ∧ bs.length - k = 0 ∧ bs.take k = bs ∧ Goes (P ++ bs) [] (P ++ bs) 0) ∨
    (ftake (P ++ bs.take k) = ([], 0, 11) ∧ 0 < bs.length - k ∧ bs.length - k < bs.length ∧ Part (P ++ bs.take k) ∧ P ++ bs.take k ++ bs.drop k = P ++ bs) := by
  obtain ⟨k', hk', h1, h2, h3⟩ := part_need P hP
  have ek : k' = k := by rw [hk] at hk'; injection hk' with a _; exact a.symm
  subst ek
  have hsplit : P ++ bs.take k' ++ bs.drop k' = P ++ bs := by rw [List.append_assoc, List.take_append_drop]
  by_cases hpart : Part (P ++ bs.take k')
  · have h11 : ftake (P ++ bs.take k') = ([], 0, 11) := by
      unfold Part at hpart
      rcases ftake_cases (P ++ bs.take k') with ⟨_, h⟩ | ⟨_, _, h, h'⟩ | ⟨_, _, _, h⟩ | ⟨_, _, _, h⟩ | ⟨_, _, _, p, _, h⟩
      · exact h
      · rw [h'] at hpart; exact absurd hpart h
      · exact h
      · rw [h] at hpart; simp at hpart
      · rw [h] at hpart; simp at hpart
    right; right
    by_cases h0 : bs.length - k' = 0
    · have ht : bs.take k' = bs := List.take_of_length_le (by omega)
      left
      refine ⟨h11, h0, ht, ?_⟩
      rw [ht] at hpart
      exact .stop hpart
    · right
      exact ⟨h11, by omega, by omega, hpart, hsplit⟩
  · have hm := ftake_more _ (bs.drop k') hpart
    rw [hsplit] at hm
    have hbs : 0 < bs.length := by
      rcases Nat.eq_zero_or_pos bs.length with h0 | h0
      · exfalso
        obtain rfl := List.eq_nil_of_length_eq_zero h0
        apply hpart; simpa using hP
      · exact h0
    obtain ⟨p, n, e, he⟩ : ∃ p n e, ftake (P ++ bs.take k') = (p, n, e) := ⟨_, _, _, rfl⟩
    by_cases h0 : e = 0
    · subst h0
      left
      have hn := h3 _ p n (by simp; omega) he
      have hpos := ftake_pos he
      refine ⟨p, n, he, by omega, by omega, fun o r e h => .more (hm.trans he) ?_⟩
      rw [hn, ← hsplit, List.drop_left]; exact h
    · right; left
      have hne : e ≠ 11 := fun h => hpart (by unfold Part; rw [he]; exact h)
      have hz : ftake (P ++ bs.take k') = ([], 0, e) := by
        rcases ftake_cases (P ++ bs.take k') with ⟨_, h⟩ | ⟨_, _, _, h⟩ | ⟨_, _, _, h⟩ | ⟨_, _, _, h⟩ | ⟨_, _, _, p, _, h⟩
        all_goals rw [he] at h; simp only [Prod.mk.injEq] at h; obtain ⟨rfl, rfl, h⟩ := h
        · rw [he]
        · rw [he]
        · rw [he]
        · rw [he]
        · exact absurd h h0
      exact ⟨e, hz, h0, hne, .bad (by rw [hm, he]) h0 hne⟩

set_option maxHeartbeats 400000 in
theorem feedNil_any (v : Value) (w : World) : Calls Tryz.prog 19 #[.pointer none, v] w fun en w' => en = .returned (.tuple #[.slice none 0 0, .int .i64 1]) ∧ w = w' := by
  go_enter Tryz.func19, Tryz.ntmps19
  go_wp2_with fail
  go_step3
  go_wp2_with fail
  refine (nilFault_any _).mono ?_
  rintro e w' ⟨rfl, rfl⟩
  go_wp2_with fail
  refine (nilFault_any _).mono ?_
  rintro e w' ⟨rfl, rfl⟩
  go_wp2_with fail
  try rw [Exit.noGoto_ret]
  go_ret2
  exact ⟨rfl, rfl⟩
set_option maxHeartbeats 400000 in
theorem feedBad_any (g : Nat) (P : List UInt8) (e : Int) (he : e ≠ 0) (v : Value) (w : World) (h : Ink w g P e) : Calls Tryz.prog 19 #[.pointer (some ⟨g, 0, none⟩), v] w fun en w' => en = .returned (.tuple #[.slice none 0 0, .int .i64 e]) ∧ w = w' := by
  have he1 : (e != 0) = true := by simpa using he
  clear he
  go_enter Tryz.func19, Tryz.ntmps19
  go_wp2_with fail
  go_step3
  go_wp2_with fail
  refine (fault_any g P e _ h).mono ?_
  rintro e w' ⟨rfl, rfl⟩
  go_wp2_with fail
  refine (fault_any g P _ _ h).mono ?_
  rintro e w' ⟨rfl, rfl⟩
  go_wp2_with fail
  try rw [Exit.noGoto_ret]
  go_ret2
  exact ⟨rfl, rfl⟩

set_option maxHeartbeats 4000000 in
theorem feed_any (g : Nat) (P : List UInt8) (w : World) (hk : Ink w g P 0) (hP : Part P) (A : Option Addr) (n c : Nat) (bs : List UInt8) (hb : BS w w.heap.size A n bs) (ho : Off g A n) (hn : n ≤ 1099511627776) (hc : n ≤ c) (hT : Nib w) :
    Calls Tryz.prog 19 #[.pointer (some ⟨g, 0, none⟩), .slice A n c] w (FeedRet w g (P ++ bs)) := by
  have hne := hk.ne_nib hT
  have hPl := part_lt P hP
  go_enter Tryz.func19, Tryz.ntmps19
  go_wp2_with fail
  go_step3
  go_wp2_with fail
  refine (fault_any g P 0 _ hk).mono ?_
  rintro e w' ⟨rfl, rfl⟩
  go_wp2_with fail
  go_step3
  go_wp2_with fail
  go_loopg [1, 4] n (fun k b t wr => FeedAt w g (P ++ bs) (P.length + n) k b t wr)
  case atStart => exact ⟨P, bs, [], A, c, none, 0, hb.1, rfl, rfl, hb, ho, hc, hk, hP, Outs.nil _ _ _ _, World.grownBy.refl w _, fun o' r e h => h, by simp⟩
  case round =>
    obtain ⟨Pk, b, o, Ak, ck, Ao, co, hbl, rfl, rfl, hbk, hok, hck, hink, hpart, houts, hgr, hgo, hN⟩ := hrel
    obtain ⟨k, hneed⟩ : ∃ k, fneed Pk = (k, 0) := by obtain ⟨k, h, _⟩ := part_need Pk hpart; exact ⟨k, h⟩
    have ways := feed_ways Pk b hpart k hneed
    have hfill := fill_any g Pk wr hink hpart Ak gk ck b w.heap.size hbk hgr.size hok (by omega) hck (hT.only hgr hne)
    rw [hneed] at hfill
    simp only at hfill
    rw [hbl] at ways
    have HN := Lib.hid hneed
    have HB := Lib.hid hbl
    clear hneed hbl
    obtain ⟨X, hX⟩ : ∃ X, X = Pk ++ b.take k := ⟨_, rfl⟩
    rw [← hX] at ways
    have HX := Lib.hid hX
    obtain ⟨p, m, e, hft⟩ : ∃ p m e, ftake X = (p, m, e) := ⟨_, _, _, rfl⟩
    have HW := Lib.hid ways
    have HT := Lib.hid hft
    clear hX ways hft
    go_wp2_with fail
    refine hfill.mono ?_
    rintro e w1 ⟨A1, c1, rfl, hbs1, hc1, hoff1, hink1, hgr1⟩
    rw [HB.out] at hbs1 hc1 hoff1 ⊢
    rw [← HX.out] at hink1
    obtain ⟨x, hx⟩ : ∃ x, x = X.length := ⟨_, rfl⟩
    have d1 := hink1.have_
    have hbX := hink1.bs
    rw [← hx] at d1 hbX
    have hT1 := (hT.only hgr hne).only hgr1 hne
    have hx1 : x ≤ 1410 := by obtain ⟨tl, hl, _⟩ := hink1; omega
    have HXL := Lib.hid hx
    clear hx
    have hx2 : (x : Int) ≤ 1410 := by omega
    go_wp2_with fail
    go_region_with (first | (go_at_call 33; refine (take_any (some ⟨g, 0, none⟩) x 1410 X _ hbX.drew (by omega) hx1 hT1).mono ?_; rw [HT.out]; rintro e w2 ⟨A2, c2, rfl, hown2, hb2⟩))
    have hgb : g < w.heap.size := hk.lt
    have hb2' : Below w1.heap.size w1 w2 := (Below.drew (Below.refl _ _)).trans hb2
    have hgrA : w.grownBy w2 (some g) := only_below (only_trans hgr hgr1) hb2'
    have hink2 := hink1.below hb2'
    have hbs2 := hbs1.below (hb2'.mono (Nat.le_trans hgr.size hgr1.size))
    have houts2 := (houts.only hgr1 (fun k hk => by injection hk with hk; omega)).below hb2'
    have hp2 : El w2 w.heap.size 5 (.slice A2 p.length c2) p := hown2.el.lo (Nat.le_trans hgr.size hgr1.size)
    have e0 := hink2.err
    have d2 := hink2.have_
    have e1 := hink2.free 1410
    have e2 := hink2.free 1411
    rcases HW.out with ⟨p', m', hft, h10, hlt, hgoes⟩ | ⟨e, hft, he0, he1, hgoes⟩ | ⟨hft, h0, htk, hgoes⟩ | ⟨hft, h0, hlt, hp2', hsp⟩
    all_goals
      rw [HT.out] at hft
      simp only [Prod.mk.injEq] at hft
    · obtain ⟨rfl, rfl, rfl⟩ := hft
      obtain ⟨vs, v1, v2, v3⟩ := houts2
      have H10 := Lib.hid h10
      have HG := Lib.hid hgoes
      have HV := Lib.hid v3
      have HV2 := Lib.hid v2
      clear h10 hgoes v3 v2
      have q1 : ∀ u ∈ [Value.slice A2 p.length c2], u.oneCell' = true := by simp [Value.oneCell']
      have q2 : (o.length + 1) * 24 ≤ 140737488355328 := by omega
      have q3 : o.length + 1 ≤ maxLen := by unfold maxLen; omega
      have Q := Lib.hid (And.intro q1 (And.intro q2 q3))
      clear q1 q2 q3
      go_wp2_with (at_builtin; refine wpList_appv Tryz.underlying63 infoSS rfl rfl (.tmp 40) (.tmp 42) rfl w.heap.size Ao o.length co vs rfl (v1.alloc _) (w2.heap.size + 1) (some ⟨w2.heap.size, 0, none⟩) 1 1 [Value.slice A2 p.length c2] rfl (VS.one w2 _ _) Q.out.1 Q.out.2.1 Q.out.2.2 (Nat.le_trans hgrA.size (by simp)) ?_; intro A3 c3 w3 hown3 hg3 hat3; have hink3 := (hink2.below ((Below.refl _ _).alloc (Nat.le_refl _) _)).grown hg3 (notown v1 hgb); have d3 := hink3.have_; have f3 := hink3.free 1410)
      go_roundg (gk - k)
      case measure => exact hlt
      case rel =>
        have hgrB : w.grownBy w3 (some g) := only_own (size := 1) (e := 24) (only_alloc hgrA _) (v1.alloc _) hg3
        have hgrC := only_at (i := 1410) (u := .int .i64 0) hgrB
        have houts3 := Outs.app (by decide) (v1.alloc _) HV2.out (fun j v bs hv hb => (HV.out j v bs hv hb).below ((Below.refl _ _).alloc (Nat.le_refl _) _)) (hp2.below ((Below.refl _ _).alloc (Nat.le_refl _) _)) hg3 hown3
        refine ⟨[], b.drop k, o ++ [p], A1, c1, A3, c3, by rw [List.length_drop, HB.out], rfl, by rw [List.length_append]; rfl, ?_, hoff1, hc1, hink3.empty, part_nil, ?_, hgrC, ?_, ?_⟩
        · refine ibs_only ((hbs2.keep fun q hq => ?_)) (only_at (i := 1410) (u := .int .i64 0) (World.grownBy.refl _ (some g))) hgrB.size hoff1
          refine World.cell?_of_block ((hg3.block q.block (by have := hgrA.size; simp; omega) (notown v1 hq)).trans (Below.heap_alloc w2 _ q.block (by have := hgrA.size; omega)))
        · rw [List.length_append]
          exact houts3.only (only_at (i := 1410) (u := .int .i64 0) (World.grownBy.refl _ (some g))) (fun k hk => by injection hk with hk; omega)
        · intro o' r e h
          rw [List.append_assoc]
          exact hgo _ _ _ (HG.out _ _ _ h)
        · have h10 := H10.out
          rw [HX.out, List.length_append, List.length_take, HB.out] at h10
          rw [List.length_append]
          simp only [List.length_cons, List.length_nil]
          omega
    · obtain ⟨rfl, rfl, rfl⟩ := hft
      have t0 : (e == 0) = false := by simpa using he0
      have t1 : (e == 11) = false := by simpa using he1
      have HG := Lib.hid hgoes
      clear hgoes he0 he1
      have hink3 := hink2.fault e
      have d3 := hink3.err
      go_wp2_with fail
      go_quiet (fail)
      go_wp2_with fail
      try rw [Exit.noGoto_ret]
      go_ret2
      refine ⟨o, [], e, Ao, co, ?_, rfl, ?_, hink3.drewN _, only_drewN (only_at (only_at hgrA)) _⟩
      · have := hgo _ _ _ HG.out; rwa [List.append_nil] at this
      · exact (houts2.only (only_at (i := 1410) (u := .int .i64 0) (World.grownBy.refl _ (some g))) (fun k hk => by injection hk with hk; omega)).only (only_drewN (only_at (i := 1411) (u := .int .i64 e) (World.grownBy.refl _ (some g))) _) (fun k hk => by injection hk with hk; omega)
    · obtain ⟨rfl, rfl, rfl⟩ := hft
      have t0 : (((gk - k : Nat) : Int) == 0) = true := by rw [h0]; rfl
      have HG := Lib.hid hgoes
      have HK := Lib.hid htk
      clear hgoes htk h0
      go_wp2_with fail
      go_quiet (fail)
      go_wp2_with fail
      try rw [Exit.noGoto_ret]
      go_ret2
      have hX : X = Pk ++ b := by rw [HX.out, HK.out]
      refine ⟨o, X, 0, Ao, co, ?_, rfl, ?_, hink2.drewN _, only_drewN hgrA _⟩
      · have := hgo _ _ _ HG.out; rw [List.append_nil] at this; rw [hX]; exact this
      · exact houts2.only (only_drewN (World.grownBy.refl _ (some g)) _) (fun k hk => by injection hk with hk; omega)
    · obtain ⟨rfl, rfl, rfl⟩ := hft
      have t0 : (((gk - k : Nat) : Int) == 0) = false := by simp; omega
      have HP2 := Lib.hid hp2'
      have HS := Lib.hid hsp
      clear hp2' hsp
      go_wp2_with fail
      go_roundg (gk - k)
      case measure => exact hlt
      case rel =>
        refine ⟨X, b.drop k, o, A1, c1, Ao, co, by rw [List.length_drop, HB.out], rfl, rfl, hbs2, hoff1, hc1, hink2, HP2.out, houts2, hgrA, ?_, ?_⟩
        · intro o' r e h
          rw [HS.out] at h
          exact hgo _ _ _ h
        · rw [HX.out, List.length_append, List.length_take, HB.out]; omega
end Go.Proofs.YthhhiiagppckhaaGreatDoor
end
