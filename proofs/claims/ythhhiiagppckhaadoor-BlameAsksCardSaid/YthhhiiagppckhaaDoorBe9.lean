/- Errors: Steps of a blame; conditions: none beyond their hypotheses. -/
import Derived.Test.YthhhiiagppckhaaDoorBe8
namespace Go.Proofs.YthhhiiagppckhaaDoor
open Go.RowKit Go.Proofs.U Go.Proofs.Bp
set_option linter.unusedVariables false

def StepsAll (n : Nat) : Prop := ∀ (t : Er) (v : Value) (w : World), siz t ≤ n → t.ok → Lt t → ErV w t v → ErrT w → Calls Tryd.prog 27 #[v] w (StepsRet w t.steps)
/-- another block than a row's -/
def Sep (A : Option Addr) (v : Value) : Prop := ∀ a, A = some a → some a.block ≠ v.ownBlock
theorem VS.sep {w w' : World} {A : Option Addr} {n : Nat} {vs : List Value} {row : Option Nat} (h : VS w w.heap.size A n vs) (hg : w.grownBy w' row) (hs : ∀ a, A = some a → some a.block ≠ row) : VS w' w'.heap.size A n vs := by
  refine ⟨h.1, fun hn => ?_⟩
  obtain ⟨b, off, rfl, hlt, hc⟩ := h.2 hn
  exact ⟨b, off, rfl, Nat.lt_of_lt_of_le hlt hg.size, fun j hj => (World.cell?_of_block (hg.block b hlt (hs _ rfl))).trans (hc j hj)⟩
theorem VS.up {w w' : World} {A : Option Addr} {n : Nat} {vs : List Value} (h : VS w w.heap.size A n vs) (hb : Below w.heap.size w w') : VS w' w'.heap.size A n vs := by
  refine ⟨h.1, fun hn => ?_⟩
  obtain ⟨b, off, rfl, hlt, hc⟩ := h.2 hn
  exact ⟨b, off, rfl, Nat.lt_of_lt_of_le hlt hb.size, fun j hj => (hb.cell (p := ⟨b, off + j, none⟩) hlt).trans (hc j hj)⟩
theorem strOf_app (a b : List UInt8) : strOf a ++ strOf b = strOf (a ++ b) := by
  unfold strOf; apply ByteArray.ext; simp
theorem strOf_sz (a : List UInt8) : (strOf a).size = a.length := by unfold strOf; simp [ByteArray.size]

set_option maxRecDepth 100000 in
set_option maxHeartbeats 8000000 in
theorem steps_one (n : Nat) (hn : n ≤ 1000000) (ih : StepsAll n) (o p : List UInt8) (x : Er) (v : Value) (w : World) (hs : siz (Er.one o p x) ≤ n + 1) (hok : (Er.one o p x).ok) (hlt : Lt (Er.one o p x)) (h : ErV w (Er.one o p x) v) (hg : ErrT w) : Calls Tryd.prog 27 #[v] w (StepsRet w (Er.one o p x).steps) := by
  obtain ⟨t, ht⟩ : ∃ t, t = (Er.one o p x) := ⟨_, rfl⟩
  have hbl : isBl t := by rw [ht]; trivial
  rw [← ht] at hs hok hlt h ⊢
  obtain ⟨g, us, rfl, hk, hul, hus⟩ := h.bl hbl
  have hone : ∀ u ∈ us, u.oneCell' = true := by
    intro u hu
    obtain ⟨j, hj, rfl⟩ := List.mem_iff_getElem.1 hu
    exact (hus j us[j] ((subs t)[j]'(by omega)) (by simp) (by simp)).one
  have h2 := subs_two t
  have HS := Lib.hid (And.intro hul (And.intro hus h2))
  have hu1000 : us.length ≤ 1000 := by omega
  have HLT := Lib.hid hlt
  have hop : o.length + p.length ≤ 100 := by rw [ht] at hlt; exact hlt.1
  have ebo : bop t = o := by rw [ht]; rfl
  have ebp : bpath t = p := by rw [ht]; rfl
  have ebb : bboth t = false := by rw [ht]; rfl
  rw [ebo, ebp, ebb] at hk
  have hown1 : own1 t = [o ++ 32 :: p] := by rw [ht]; rfl
  have HO1 := Lib.hid hown1
  clear ebo ebp ebb hown1
  have HT := Lib.hid ht
  clear hul hus h2 hlt ht
  have hb0 := boxed w (.cells #[.pointer none] 60)
  have hc0 : (w.alloc (.cells #[.pointer none] 60)).cell? ⟨w.heap.size, 0, none⟩ = some (.pointer none) := by simp
  have hf0 : (w.alloc (.cells #[.pointer none] 60)).frozen? ⟨w.heap.size, 0, none⟩ = false := by simp
  go_enter Tryd.func27, Tryd.ntmps27
  go_wp2_with fail
  generalize w.alloc (.cells #[.pointer none] 60) = w0 at hb0 hc0 hf0 ⊢
  refine (As_b _ ⟨w.heap.size, 0, none⟩ _ w0 (hg.below hb0) hc0 hf0).mono ?_
  rintro e w1 ⟨rfl, wA, hbA, rfl⟩
  have hb1 : Below w.heap.size w (wA.setCell ⟨w.heap.size, 0, none⟩ (.pointer (some ⟨g, 0, none⟩))) := (hb0.trans (hbA.mono hb0.size)).setCell (p := ⟨w.heap.size, 0, none⟩) (Nat.le_refl _) _
  have hc1 : (wA.setCell ⟨w.heap.size, 0, none⟩ (.pointer (some ⟨g, 0, none⟩))).cell? ⟨w.heap.size, 0, none⟩ = some (.pointer (some ⟨g, 0, none⟩)) := cell_set (cell_below hc0 hbA)
  generalize wA.setCell ⟨w.heap.size, 0, none⟩ (.pointer (some ⟨g, 0, none⟩)) = w1 at hb1 hc1 ⊢
  clear hc0 hf0
  have hk1 := hk.below hb1
  have HK1 := Lib.hid hk1
  obtain ⟨gu, d0, d1, d2, -, -, -, -, -⟩ := hk1
  obtain ⟨so, hso⟩ : ∃ so, so = strOf o := ⟨_, rfl⟩
  obtain ⟨sp, hsp⟩ : ∃ sp, sp = strOf p := ⟨_, rfl⟩
  obtain ⟨s3, hs3⟩ : ∃ s3, s3 = strOf (o ++ [32]) := ⟨_, rfl⟩
  obtain ⟨s4, hs4⟩ : ∃ s4, s4 = strOf (o ++ 32 :: p) := ⟨_, rfl⟩
  have x1 : ∀ w', (Op.stringOp .add so ⟨#[32]⟩).run Tryd.prog w' = .ok (.string s3) w' := fun w' => by
    rw [hso, hs3, run_string_add_sum w' _ _ (by rw [strOf_sz]; show o.length + 1 ≤ _; omega)]
    exact congrArg (fun z => Result.ok (Value.string z) w') (strOf_app o [32])
  have x2 : ∀ w', (Op.stringOp .add s3 sp).run Tryd.prog w' = .ok (.string s4) w' := fun w' => by
    rw [hsp, hs3, hs4, run_string_add_sum w' _ _ (by rw [strOf_sz, strOf_sz]; simp; omega), strOf_app]
    simp
  rw [← hso] at d0
  rw [← hsp] at d1
  have HS4 := Lib.hid hs4
  clear hso hsp hs3 hs4
  have hn0 := World.ownsRow_nil ((w1.alloc (.cells #[.string s4] 9)).drew) w.heap.size 9 1
  have hvo : VS ((w1.alloc (.cells #[.string s4] 9)).drew) (w1.heap.size + 1) (some ⟨w1.heap.size, 0, none⟩) 1 [.string s4] := VS.one w1 (.string s4) 9
  have hb4 : Below w1.heap.size w1 ((w1.alloc (.cells #[.string s4] 9)).drew) := (boxed w1 _).drew
  have hz := Nat.le_trans hb1.size hb4.size
  have ho4 : ∀ u ∈ [Value.string s4], u.oneCell' = true := by simp [Value.oneCell']
  go_wp2_with fail
  go_region_law ((refine step_appv Tryd.underlying51 infoStr rfl rfl _ _ rfl w.heap.size none 0 0 [] rfl hn0 _ _ 1 1 _ rfl hvo ho4 (by decide) (by decide) hz ?_; intro AC cC wC hownC hgC hobC))
  all_goals
    have hbC : Below w1.heap.size w1 wC := below_row hb4 hb4.size (World.ownsRow_nil ((w1.alloc (.cells #[.string s4] 9)).drew) w1.heap.size 9 1) (Nat.le_refl _) hgC
    have hownC : OwnS wC w.heap.size AC 1 cC (own1 t) := by
      rw [HO1.out]; unfold OwnS; rw [List.map_cons, List.map_nil, show sv (o ++ 32 :: p) = .string s4 by rw [HS4.out]; rfl]; exact hownC
    have hc1 := cell_below hc1 hbC
    clear hn0 hvo hb4 ho4 hgC hobC x1 x2 hz
    go_wp2_with fail

    clear d0 d1 d2
    refine (unwrap_any g _ _ _ us wC (HK1.out.below hbC) hone hu1000).mono ?_
    rintro e w2 ⟨A2, c2, rfl, hvs2, hb2, hfresh⟩
    have hbw2 := hb1.trans ((hbC.trans (hb2.mono hbC.size)).mono hb1.size)
    have hownD := hownC.below hb2
    have hsep : Sep A2 (.slice AC 1 cC) := by
      intro a ha e
      have := hfresh a ha
      have := (World.ownsRow.lt hownC a.block e.symm).2
      omega
    have hA2l : ∀ a, A2 = some a → a.block < w2.heap.size := by
      intro a ha
      rcases Nat.eq_zero_or_pos us.length with h0 | h0
      · exact absurd h0 (by rw [HS.out.1, HT.out]; simp [subs])
      · obtain ⟨b, off, e, hlt, -⟩ := hvs2.2 h0; rw [ha] at e; injection e with e; subst e; exact hlt
    obtain ⟨k, hkl⟩ : ∃ k, k = us.length := ⟨_, rfl⟩
    rw [← hkl] at hvs2
    rw [← hkl]
    have HK := Lib.hid hkl
    have hk2 : k ≤ 2 := by have := HS.out.2.2; have := HS.out.1; omega
    clear hkl hone hu1000 hc1
    go_wp2_with fail
    go_loopg [2, 35] k (fun r out i wr => ∃ (j m : Nat) (A : Option Addr) (c : Nat) (l : List (List UInt8)), r + j = k ∧ i = .int .i64 (j : Int) ∧ out = .slice A m c ∧ l = own1 t ++ ((subs t).take j).flatMap Er.steps ∧ m ≤ 1 + j * (n + 1) ∧ OwnS wr w.heap.size A m c l ∧ VS wr wr.heap.size A2 k us ∧ Sep A2 (.slice A m c) ∧ (∀ a, A2 = some a → a.block < wr.heap.size) ∧ Below w.heap.size w wr)
    case atStart => exact ⟨0, 1, AC, cC, own1 t, rfl, rfl, rfl, by simp, by omega, hownD, hvs2, hsep, hA2l, hbw2⟩
    case round =>
      clear hownD hownC hvs2
      obtain ⟨j, m, A, c, l, hgk, rfl, rfl, hl, hm, hown, hvs3, hsp, hal, hb3⟩ := hrel
      have HSP := Lib.hid (And.intro hsp hal)
      clear hsp hal
      obtain ⟨wo, rfl⟩ : ∃ wo : World, wo = wr := ⟨_, rfl⟩
      have HJ := Lib.hid (And.intro hgk hl)
      have hm' : m ≤ 1 + 2 * (n + 1) := Nat.le_trans hm (Nat.add_le_add_left (Nat.mul_le_mul_right _ (by omega)) _)
      have HM := Lib.hid hm
      clear hm
      by_cases hj : j < k
      · clear hgk hl
        have hju : j < us.length := by rw [← HK.out]; exact hj
        have hjs : j < (subs t).length := by rw [← HS.out.1]; exact hju
        obtain ⟨u, hu⟩ : ∃ u, us[j]? = some u := ⟨us[j], by simp⟩
        obtain ⟨x, hx⟩ : ∃ x, (subs t)[j]? = some x := ⟨(subs t)[j], by simp⟩
        have hxm := List.mem_of_getElem? hx
        have hxv := (HS.out.2.1 j u x hu hx)
        have hxo := sub_ok hok hxm
        have hxl := sub_lt HLT.out hxm
        have hxs : siz x ≤ n := by have := subs_lt hxm; omega
        obtain ⟨gA, oA, rfl, hgl, -⟩ := hvs3.2 (by omega)
        have c1 := VS.nth hvs3 hu
        have htk : own1 t ++ ((subs t).take (j + 1)).flatMap Er.steps = l ++ x.steps := by
          rw [List.take_add_one, hx, List.flatMap_append, ← List.append_assoc, ← HJ.out.2]; simp
        have hxn := steps_len x
        have H := Lib.hid (And.intro hxv (And.intro htk (And.intro hxn hxl)))
        clear hju hjs hu hx hxm hxv htk hxn hxl
        go_wp2_with fail
        refine (ih x u wo hxs hxo H.out.2.2.2 (H.out.1.below hb3) (hg.below hb3)).mono ?_
        rintro e w3 ⟨A3, m3, c3, hm3, rfl, hown3, hb4⟩
        have hm3' : m3 ≤ n := by have := H.out.2.2.1; omega
        have HM3 := Lib.hid hm3
        clear hm3
        have hownB := hown.below hb4
        have hq : (m + m3) * 16 ≤ 140737488355328 := by omega
        have hq2 : m + m3 ≤ maxLen := by unfold maxLen; omega
        have hb34 := hb3.trans (hb4.mono hb3.size)
        have hvs4 := VS.up hvs3 hb4
        go_wp2_with (at_builtin; refine wpList_appv Tryd.underlying51 infoStr rfl rfl (.tmp 39) (.tmp 41) rfl w.heap.size _ _ _ _ rfl hownB _ _ m3 c3 _ rfl hown3.vs (oneS _) hq hq2 hb34.size ?_; intro A5 c5 w5 hown5 hg5 hob5)
        go_roundg (gk - 1)
        case measure => have := HJ.out.1; omega
        case rel =>
          refine ⟨j + 1, m + m3, A5, c5, l ++ x.steps, by have := HJ.out.1; omega, by go_num, rfl, H.out.2.1.symm, ?_, ?_, VS.sep hvs4 hg5 (HSP.out.1), ?_, ?_, below_row hb34 hb34.size hownB (Nat.le_refl _) hg5⟩
          · have := HM.out; rw [Nat.add_mul]; omega
          · unfold OwnS; rw [List.map_append]; exact hown5
          · intro a ha
            rcases hob5 with e | e
            · rw [e]; exact HSP.out.1 a ha
            · rw [e]; intro e2; injection e2 with e2; have := HSP.out.2 a ha; have := hb4.size; omega
          · intro a ha
            have := HSP.out.2 a ha; have := hb4.size; have := hg5.size; omega
      · obtain rfl : j = k := by omega
        clear hgk
        have hall : l = t.steps := by
          rw [hl, List.take_of_length_le (by rw [← HS.out.1, ← HK.out]; exact Nat.le_refl _), steps_subs hbl]
        clear hl HJ
        subst hall
        go_wp2_with fail
        go_ret
        exact ⟨A, m, c, hown.len.symm, rfl, hown, hb3⟩

set_option maxRecDepth 100000 in
set_option maxHeartbeats 8000000 in
theorem steps_two (n : Nat) (hn : n ≤ 1000000) (ih : StepsAll n) (a b : Er) (v : Value) (w : World) (hs : siz (Er.two a b) ≤ n + 1) (hok : (Er.two a b).ok) (hlt : Lt (Er.two a b)) (h : ErV w (Er.two a b) v) (hg : ErrT w) : Calls Tryd.prog 27 #[v] w (StepsRet w (Er.two a b).steps) := by
  obtain ⟨t, ht⟩ : ∃ t, t = (Er.two a b) := ⟨_, rfl⟩
  have hbl : isBl t := by rw [ht]; trivial
  rw [← ht] at hs hok hlt h ⊢
  obtain ⟨g, us, rfl, hk, hul, hus⟩ := h.bl hbl
  have hone : ∀ u ∈ us, u.oneCell' = true := by
    intro u hu
    obtain ⟨j, hj, rfl⟩ := List.mem_iff_getElem.1 hu
    exact (hus j us[j] ((subs t)[j]'(by omega)) (by simp) (by simp)).one
  have h2 := subs_two t
  have HS := Lib.hid (And.intro hul (And.intro hus h2))
  have hu1000 : us.length ≤ 1000 := by omega
  have HLT := Lib.hid hlt
  have ebo : bop t = [] := by rw [ht]; rfl
  have ebp : bpath t = [] := by rw [ht]; rfl
  have ebb : bboth t = true := by rw [ht]; rfl
  rw [ebo, ebp, ebb] at hk
  have hown1 : own1 t = [] := by rw [ht]; rfl
  have HO1 := Lib.hid hown1
  clear ebo ebp ebb hown1
  have HT := Lib.hid ht
  clear hul hus h2 hlt ht
  have hb0 := boxed w (.cells #[.pointer none] 60)
  have hc0 : (w.alloc (.cells #[.pointer none] 60)).cell? ⟨w.heap.size, 0, none⟩ = some (.pointer none) := by simp
  have hf0 : (w.alloc (.cells #[.pointer none] 60)).frozen? ⟨w.heap.size, 0, none⟩ = false := by simp
  go_enter Tryd.func27, Tryd.ntmps27
  go_wp2_with fail
  generalize w.alloc (.cells #[.pointer none] 60) = w0 at hb0 hc0 hf0 ⊢
  refine (As_b _ ⟨w.heap.size, 0, none⟩ _ w0 (hg.below hb0) hc0 hf0).mono ?_
  rintro e w1 ⟨rfl, wA, hbA, rfl⟩
  have hb1 : Below w.heap.size w (wA.setCell ⟨w.heap.size, 0, none⟩ (.pointer (some ⟨g, 0, none⟩))) := (hb0.trans (hbA.mono hb0.size)).setCell (p := ⟨w.heap.size, 0, none⟩) (Nat.le_refl _) _
  have hc1 : (wA.setCell ⟨w.heap.size, 0, none⟩ (.pointer (some ⟨g, 0, none⟩))).cell? ⟨w.heap.size, 0, none⟩ = some (.pointer (some ⟨g, 0, none⟩)) := cell_set (cell_below hc0 hbA)
  generalize wA.setCell ⟨w.heap.size, 0, none⟩ (.pointer (some ⟨g, 0, none⟩)) = w1 at hb1 hc1 ⊢
  clear hc0 hf0
  have hk1 := hk.below hb1
  have HK1 := Lib.hid hk1
  obtain ⟨gu, d0, d1, d2, -, -, -, -, -⟩ := hk1
  have hownC : OwnS w1 w.heap.size none 0 0 (own1 t) := by rw [HO1.out]; exact OwnS.nil _ _
  have hbC : Below w1.heap.size w1 w1 := Below.refl _ _
  go_wp2_with fail
  clear d0 d1 d2
  refine (unwrap_any g _ _ _ us w1 (HK1.out.below hbC) hone hu1000).mono ?_
  rintro e w2 ⟨A2, c2, rfl, hvs2, hb2, hfresh⟩
  have hbw2 := hb1.trans ((hbC.trans (hb2.mono hbC.size)).mono hb1.size)
  have hownD := hownC.below hb2
  have hsep : Sep A2 (.slice none 0 0) := by
    intro a ha e
    cases e
  have hA2l : ∀ a, A2 = some a → a.block < w2.heap.size := by
    intro a ha
    rcases Nat.eq_zero_or_pos us.length with h0 | h0
    · exact absurd h0 (by rw [HS.out.1, HT.out]; simp [subs])
    · obtain ⟨b, off, e, hlt, -⟩ := hvs2.2 h0; rw [ha] at e; injection e with e; subst e; exact hlt
  obtain ⟨k, hkl⟩ : ∃ k, k = us.length := ⟨_, rfl⟩
  rw [← hkl] at hvs2
  rw [← hkl]
  have HK := Lib.hid hkl
  have hk2 : k ≤ 2 := by have := HS.out.2.2; have := HS.out.1; omega
  clear hkl hone hu1000 hc1
  go_wp2_with fail
  go_loopg [2, 35] k (fun r out i wr => ∃ (j m : Nat) (A : Option Addr) (c : Nat) (l : List (List UInt8)), r + j = k ∧ i = .int .i64 (j : Int) ∧ out = .slice A m c ∧ l = own1 t ++ ((subs t).take j).flatMap Er.steps ∧ m ≤ 1 + j * (n + 1) ∧ OwnS wr w.heap.size A m c l ∧ VS wr wr.heap.size A2 k us ∧ Sep A2 (.slice A m c) ∧ (∀ a, A2 = some a → a.block < wr.heap.size) ∧ Below w.heap.size w wr)
  case atStart => exact ⟨0, 0, none, 0, own1 t, rfl, rfl, rfl, by simp, by omega, hownD, hvs2, hsep, hA2l, hbw2⟩
  case round =>
    clear hownD hownC hvs2
    obtain ⟨j, m, A, c, l, hgk, rfl, rfl, hl, hm, hown, hvs3, hsp, hal, hb3⟩ := hrel
    have HSP := Lib.hid (And.intro hsp hal)
    clear hsp hal
    obtain ⟨wo, rfl⟩ : ∃ wo : World, wo = wr := ⟨_, rfl⟩
    have HJ := Lib.hid (And.intro hgk hl)
    have hm' : m ≤ 1 + 2 * (n + 1) := Nat.le_trans hm (Nat.add_le_add_left (Nat.mul_le_mul_right _ (by omega)) _)
    have HM := Lib.hid hm
    clear hm
    by_cases hj : j < k
    · clear hgk hl
      have hju : j < us.length := by rw [← HK.out]; exact hj
      have hjs : j < (subs t).length := by rw [← HS.out.1]; exact hju
      obtain ⟨u, hu⟩ : ∃ u, us[j]? = some u := ⟨us[j], by simp⟩
      obtain ⟨x, hx⟩ : ∃ x, (subs t)[j]? = some x := ⟨(subs t)[j], by simp⟩
      have hxm := List.mem_of_getElem? hx
      have hxv := (HS.out.2.1 j u x hu hx)
      have hxo := sub_ok hok hxm
      have hxl := sub_lt HLT.out hxm
      have hxs : siz x ≤ n := by have := subs_lt hxm; omega
      obtain ⟨gA, oA, rfl, hgl, -⟩ := hvs3.2 (by omega)
      have c1 := VS.nth hvs3 hu
      have htk : own1 t ++ ((subs t).take (j + 1)).flatMap Er.steps = l ++ x.steps := by
        rw [List.take_add_one, hx, List.flatMap_append, ← List.append_assoc, ← HJ.out.2]; simp
      have hxn := steps_len x
      have H := Lib.hid (And.intro hxv (And.intro htk (And.intro hxn hxl)))
      clear hju hjs hu hx hxm hxv htk hxn hxl
      go_wp2_with fail
      refine (ih x u wo hxs hxo H.out.2.2.2 (H.out.1.below hb3) (hg.below hb3)).mono ?_
      rintro e w3 ⟨A3, m3, c3, hm3, rfl, hown3, hb4⟩
      have hm3' : m3 ≤ n := by have := H.out.2.2.1; omega
      have HM3 := Lib.hid hm3
      clear hm3
      have hownB := hown.below hb4
      have hq : (m + m3) * 16 ≤ 140737488355328 := by omega
      have hq2 : m + m3 ≤ maxLen := by unfold maxLen; omega
      have hb34 := hb3.trans (hb4.mono hb3.size)
      have hvs4 := VS.up hvs3 hb4
      go_wp2_with (at_builtin; refine wpList_appv Tryd.underlying51 infoStr rfl rfl (.tmp 39) (.tmp 41) rfl w.heap.size _ _ _ _ rfl hownB _ _ m3 c3 _ rfl hown3.vs (oneS _) hq hq2 hb34.size ?_; intro A5 c5 w5 hown5 hg5 hob5)
      go_roundg (gk - 1)
      case measure => have := HJ.out.1; omega
      case rel =>
        refine ⟨j + 1, m + m3, A5, c5, l ++ x.steps, by have := HJ.out.1; omega, by go_num, rfl, H.out.2.1.symm, ?_, ?_, VS.sep hvs4 hg5 (HSP.out.1), ?_, ?_, below_row hb34 hb34.size hownB (Nat.le_refl _) hg5⟩
        · have := HM.out; rw [Nat.add_mul]; omega
        · unfold OwnS; rw [List.map_append]; exact hown5
        · intro a ha
          rcases hob5 with e | e
          · rw [e]; exact HSP.out.1 a ha
          · rw [e]; intro e2; injection e2 with e2; have := HSP.out.2 a ha; have := hb4.size; omega
        · intro a ha
          have := HSP.out.2 a ha; have := hb4.size; have := hg5.size; omega
    · obtain rfl : j = k := by omega
      clear hgk
      have hall : l = t.steps := by
        rw [hl, List.take_of_length_le (by rw [← HS.out.1, ← HK.out]; exact Nat.le_refl _), steps_subs hbl]
      clear hl HJ
      subst hall
      go_wp2_with fail
      go_ret
      exact ⟨A, m, c, hown.len.symm, rfl, hown, hb3⟩
end Go.Proofs.YthhhiiagppckhaaDoor
