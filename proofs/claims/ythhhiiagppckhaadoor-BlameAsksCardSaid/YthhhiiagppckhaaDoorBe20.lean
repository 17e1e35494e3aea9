/- Errors: errors.As of any error into a number; conditions: none beyond their hypotheses. -/
import Derived.Test.YthhhiiagppckhaaDoorBe19
namespace Go.Proofs.YthhhiiagppckhaaDoor
open Go.RowKit Go.Proofs.U Go.Proofs.Bp Go.Extern.Stop Go.Stop Go.Extern
set_option linter.unusedVariables false

def AsAllE (n : Nat) : Prop := ∀ (t : Er) (v : Value) (ta a : Addr) (old : Value) (w : World), siz t ≤ n → t.ok → ErV w t v → w.cell? a = some (.pointer (some ta)) → w.cell? ta = some old → w.frozen? ta = false →
  Calls Tryd.prog 72 #[v, .iface 83 (.pointer (some ta)), rv 83 a 150, rt 23] w (AsHit w ta (.int .i64 (first0 t.codes)))
theorem first_sub {t : Er} (h : isBl t) (hok : t.ok) : ∃ x, (subs t)[0]? = some x ∧ first0 t.codes = first0 x.codes := by
  cases t with
  | nil => exact h.elim
  | code c => exact h.elim
  | one o p e => exact ⟨e, rfl, rfl⟩
  | two a b =>
    refine ⟨a, rfl, ?_⟩
    have := Er.ok_codes (e := a) hok.1
    simp only [Er.codes]
    cases hl : a.codes with
    | nil => exact absurd hl this
    | cons x r => rfl
set_option maxRecDepth 100000 in
set_option maxHeartbeats 8000000 in
theorem asE_bl (n : Nat) (ih : AsAllE n) (t : Er) (v : Value) (ta a : Addr) (old : Value) (w : World) (hs : siz t ≤ n + 1) (hok : t.ok) (hbl : isBl t) (h : ErV w t v) (ha : w.cell? a = some (.pointer (some ta))) (ht0 : w.cell? ta = some old) (hf0 : w.frozen? ta = false) :
    Calls Tryd.prog 72 #[v, .iface 83 (.pointer (some ta)), rv 83 a 150, rt 23] w (AsHit w ta (.int .i64 (first0 t.codes))) := by
  obtain ⟨x, hx, hfx⟩ := first_sub hbl hok
  rw [hfx]
  obtain ⟨c, hc⟩ : ∃ c, c = first0 x.codes := ⟨_, rfl⟩
  rw [← hc]
  obtain ⟨g, us, rfl, -, -, -⟩ := h.bl hbl
  have hxm := List.mem_of_getElem? hx
  have hxo := sub_ok hok hxm
  have hxs : siz x ≤ n := by have := subs_lt hxm; omega
  have hun := fun w' (hb' : Below w.heap.size w w') => unwrap_tree t g w' hbl (h.below hb')
  obtain ⟨k, hk⟩ : ∃ k, k = (subs t).length := ⟨_, rfl⟩
  have hk0 : 0 < k := by rw [hk]; exact (List.getElem?_eq_some_iff.1 hx).1
  rw [← hk] at hun
  have hO := Bf.cO
  have hA := Bf.cA
  have g10 := Bf.typeOfb
  have g11 := Bf.mAssignableTo
  have g12 := Bf.asg_b_e
  have n1 := Bf.noAs_b
  have n2 := Bf.noUnwrap_b
  have n3 := Bf.hasUnwraps_b
  have n4 := Bf.mUnwraps
  have n5 := Bf.nUnwraps
  have hihx := fun u w' (hv : ErV w' x u) => ih x u ta a old w' hxs hxo hv
  rw [← hc] at hihx
  have HIH := Lib.hid hihx
  have HX := Lib.hid (And.intro hx hxo)
  have HUN := Lib.hid hun
  have HF := Lib.hid (And.intro ha (And.intro ht0 hf0))
  clear hc hfx hxm hxo hxs hk hun h hihx hx ha ht0 hf0
  have hb0 := boxed w (.cells #[hd 83, .pointer (some a), .int .u64 150] 127)
  go_enter Tryd.func72, Tryd.ntmps72
  go_wp2_with (first | go_in | fail)
  refine wp_loop_rounds 1 ?_
  rw [rounds_succ]
  go_wp2_with (first | (go_at_call 32; refine (HUN.out _ hb0).mono ?_; rintro e w1 ⟨A1, c1, us1, rfl, hul, hvs, hus, hb1⟩; have HUS := Lib.hid (And.intro hul hus); clear hul hus) | go_in)
  have hk1 : Blk (w.alloc (.cells #[hd 83, .pointer (some a), .int .u64 150] 127)) w.heap.size 127 #[hd 83, .pointer (some a), .int .u64 150] := Blk.new _ _ _
  have hk2 := hk1.stay hb1
  have r0 := hk2.cell 0
  have r1 := hk2.cell 1
  have r2 := hk2.cell 2
  simp only [List.getElem?_toArray, List.getElem?_cons_zero, List.getElem?_cons_succ] at r0 r1 r2
  obtain ⟨u, hu⟩ : ∃ u, us1[0]? = some u := ⟨us1[0]'(by rw [HUS.out.1]; exact hk0), by simp⟩
  have hxv := HUS.out.2 0 u x hu HX.out.1
  obtain ⟨gA, oA, rfl, hgl, -⟩ := hvs.2 hk0
  have cu := VS.nth hvs hu
  rw [Nat.add_zero] at cu
  obtain ⟨T, y, rfl⟩ := hxv.iface (ok_nn HX.out.2)
  have hb1' : Below w.heap.size w w1 := hb0.trans (hb1.mono hb0.size)
  have hcall := HIH.out _ w1 hxv (cell_below HF.out.1 hb1') (cell_below HF.out.2.1 hb1') (free_below HF.out.2.1 HF.out.2.2 hb1')
  have HC := Lib.hid hcall
  have hk0i : (0 : Int) < (k : Int) := by omega
  clear hk1 hk2 hu hxv hcall hb1 hb0 hO hA g10 g11 g12 n1 n2 n3 n4 n5
  refine wp_loop_rounds 1 ?_
  rw [rounds_succ]
  go_wp2_with (go_at_call 72; refine HC.out.mono ?_; rintro e w2 ⟨rfl, wA, hbA, rfl⟩)
  go_ret
  exact ⟨rfl, wA, hb1'.trans (hbA.mono hb1'.size), rfl⟩
theorem asE_all : ∀ n, AsAllE n
  | 0 => fun t v ta a old w hs hok h => by cases t <;> simp [siz] at hs
  | n + 1 => fun t v ta a old w hs hok h ha ht0 hf0 => by
    cases t with
    | nil => exact hok.elim
    | code d =>
      obtain rfl : v = _ := h
      have e : first0 (Er.code d).codes = d := by simp only [Er.codes]; rw [if_neg (show ¬ d = 0 from hok)]; rfl
      rw [e]
      exact as_hit_e d ta a old w ha ht0 hf0
    | one o p e => exact asE_bl n (asE_all n) _ v ta a old w hs hok trivial h ha ht0 hf0
    | two a' b => exact asE_bl n (asE_all n) _ v ta a old w hs hok trivial h ha ht0 hf0
/-- errors.As of an error into a number -/
theorem As_num (t : Er) (v : Value) (ta : Addr) (old : Value) (w : World) (hok : t.ok) (h : ErV w t v) (hg : ErrT w) (ht0 : w.cell? ta = some old) (hf0 : w.frozen? ta = false) :
    Calls Tryd.prog 31 #[v, .iface 83 (.pointer (some ta))] w (AsHit w ta (.int .i64 (first0 t.codes))) := by
  obtain ⟨T, x, rfl⟩ := h.iface (ok_nn hok)
  exact (as_via_E T x ta w (fun b w' => b = true ∧ ∃ wA, Below w.heap.size w wA ∧ w' = wA.setCell ta (.int .i64 (first0 t.codes))) hg fun w1 a hb ha =>
    (asE_all (siz t) t _ ta a old w1 (Nat.le_refl _) hok (h.below hb) ha (cell_below ht0 hb) (free_below ht0 hf0 hb)).mono fun e' w' h => ⟨true, h.1, rfl, (h.up hb).2⟩).mono
    fun e' w' ⟨b, he, hb, hr⟩ => ⟨by rw [he, hb], hr⟩
end Go.Proofs.YthhhiiagppckhaaDoor
