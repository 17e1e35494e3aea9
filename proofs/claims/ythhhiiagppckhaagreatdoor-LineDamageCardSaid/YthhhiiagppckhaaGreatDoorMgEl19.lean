/- The walks of errors.Is; conditions: none beyond their hypotheses. -/
import Derived.Test.YthhhiiagppckhaaGreatDoorMgBe6
import Derived.Test.YthhhiiagppckhaaGreatDoorMgBp
import Derived.Lib.IfaceEq
set_option linter.unusedSimpArgs false
set_option linter.unusedVariables false
section
namespace Go.Proofs.YthhhiiagppckhaaGreatDoor
open Go.RowKit Go.Proofs.U Go.Proofs.Bp Go.Extern.Stop Go.Stop Go.Extern
set_option linter.unusedVariables false

def IsRet (w : World) (b : Bool) (e : Ending) (w' : World) : Prop := e = .returned (.bool b) ∧ Below w.heap.size w w'
theorem compE : (Tryz.prog.info? 23).map (·.comparable) = some true := by kernel_rfl
set_option maxRecDepth 100000 in
set_option maxHeartbeats 4000000 in
theorem is_code (d c : Int) (w : World) : Calls Tryz.prog 43 #[.iface 23 (.int .i64 d), .iface 23 (.int .i64 c), .bool true] w (IsRet w (d == c)) := by
  have heq := Lib.run_eql_iface_int (P := Tryz.prog) w (t := 42) (tx := 23) (k := .i64) d c Tryz.underlying42 compE Tryz.underlying23
  have n1 := Bf.noIs_e
  have n2 := Bf.noUnwrap_e
  have n3 := Bf.noUnwraps_e
  cases hdc : (d == c) with
  | true =>
    rw [hdc] at heq
    clear hdc
    go_enter Tryz.func43, Tryz.ntmps43
    go_wp2
    refine wp_loop_rounds 1 ?_
    rw [rounds_succ]
    go_wp2
    go_ret
    exact ⟨rfl, Below.refl _ _⟩
  | false =>
    rw [hdc] at heq
    clear hdc
    go_enter Tryz.func43, Tryz.ntmps43
    go_wp2
    refine wp_loop_rounds 1 ?_
    rw [rounds_succ]
    go_wp2
    go_ret
    exact ⟨rfl, Below.refl _ _⟩
theorem Bf.nUnwraps (n : Nat) (e : Option Addr) (w : World) : (nilAhead (n + 1) 122 (.pointer e) "Unwrap").run Tryz.prog w = .ok (some false) w := by kernel_rfl
def IsAll (n : Nat) (c : Int) : Prop := ∀ (t : Er) (v : Value) (w : World), siz t ≤ n → t.ok → ErV w t v → Calls Tryz.prog 43 #[v, .iface 23 (.int .i64 c), .bool true] w (IsRet w (t.has c))
def hasAny (c : Int) (l : List Er) : Bool := l.any (Er.has c)
theorem has_subs {t : Er} (h : isBl t) (c : Int) : t.has c = hasAny c (subs t) := by
  cases t with
  | nil => exact h.elim
  | code c => exact h.elim
  | one o p e => simp [subs, Er.has, hasAny]
  | two a b => simp [subs, Er.has, hasAny]
set_option maxRecDepth 100000 in
set_option maxHeartbeats 8000000 in
theorem is_bl (n : Nat) (c : Int) (ih : IsAll n c) (t : Er) (v : Value) (w : World) (hs : siz t ≤ n + 1) (hok : t.ok) (hbl : isBl t) (h : ErV w t v) :
    Calls Tryz.prog 43 #[v, .iface 23 (.int .i64 c), .bool true] w (IsRet w (t.has c)) := by
  obtain ⟨R, hR⟩ : ∃ R, R = t.has c := ⟨_, rfl⟩
  rw [← hR]
  rw [has_subs hbl] at hR
  obtain ⟨g, us, rfl, -, -, -⟩ := h.bl hbl
  have hun := unwrap_tree t g w hbl h
  obtain ⟨k, hk⟩ : ∃ k, k = (subs t).length := ⟨_, rfl⟩
  have hk2 : k ≤ 2 := by have := subs_two t; omega
  rw [← hk] at hun
  have heq := run_eql_iface_types (P := Tryz.prog) 122 23 (.pointer (some ⟨g, 0, none⟩)) (.int .i64 c) Tryz.underlying42 (by decide) w
  have n1 := Bf.noIs_b
  have n2 := Bf.noUnwrap_b
  have n3 := Bf.hasUnwraps_b
  have n4 := Bf.mUnwraps
  have n5 := Bf.nUnwraps
  have HR := Lib.hid hR
  have HK := Lib.hid hk
  have HUN := Lib.hid hun
  clear hR hk hun h
  go_enter Tryz.func43, Tryz.ntmps43
  go_wp2_with fail
  refine wp_loop_rounds 1 ?_
  rw [rounds_succ]
  go_wp2_with (go_at_call 67; refine HUN.out.mono ?_; rintro e w1 ⟨A1, c1, us1, rfl, hul, hvs, hus, hb1⟩; have HUS := Lib.hid (And.intro hul hus); clear hul hus)
  clear heq n1 n2 n3 n4 n5
  go_loopg [45] k (fun r i wr => ∃ (j : Nat), r + j = k ∧ i = .int .i64 (j : Int) ∧ hasAny c ((subs t).take j) = false ∧ Below w1.heap.size w1 wr)
  case atStart => exact ⟨0, rfl, rfl, rfl, Below.refl _ _⟩
  case round =>
    obtain ⟨j, hgk, rfl, hno, hb2⟩ := hrel
    obtain ⟨wo, rfl⟩ : ∃ wo : World, wo = wr := ⟨_, rfl⟩
    have HJ := Lib.hid (And.intro hgk hno)
    clear hno
    have hbo := hb1.trans (hb2.mono hb1.size)
    by_cases hj : j < k
    · clear hgk
      obtain ⟨x, hx⟩ : ∃ x, (subs t)[j]? = some x := ⟨(subs t)[j]'(by rw [← HK.out]; exact hj), by simp⟩
      obtain ⟨u, hu⟩ : ∃ u, us1[j]? = some u := ⟨us1[j]'(by rw [HUS.out.1]; exact hj), by simp⟩
      have hxm := List.mem_of_getElem? hx
      have hxv := (HUS.out.2 j u x hu hx).below hb2
      have hxo := sub_ok hok hxm
      have hxs : siz x ≤ n := by have := subs_lt hxm; omega
      obtain ⟨gA, oA, rfl, hgl, -⟩ := hvs.2 (by omega)
      have cu := VS.nth (hvs.below hb2) hu
      have htk : hasAny c ((subs t).take (j + 1)) = x.has c := by
        rw [take_succ_get _ j x hx]
        unfold hasAny at *
        rw [List.any_append, HJ.out.2]; simp
      have hR1 : x.has c = true → R = true := fun e => by
        rw [HR.out]; exact List.any_eq_true.2 ⟨x, hxm, e⟩
      have hcall := ih x u wo hxs hxo hxv
      obtain ⟨b, hbb⟩ : ∃ b, b = x.has c := ⟨_, rfl⟩
      rw [← hbb] at htk hR1 hcall
      have HX := Lib.hid (And.intro htk hR1)
      have HC := Lib.hid hcall
      clear hx hu hxm hxv hxo hxs htk hR1 hcall hbb
      cases b with
      | true =>
        obtain rfl : R = true := HX.out.2 rfl
        go_wp2_with fail
        refine HC.out.mono ?_
        rintro e w3 ⟨rfl, hb3⟩
        go_wp2_with fail
        go_ret
        exact ⟨rfl, hbo.trans (hb3.mono hbo.size)⟩
      | false =>
        go_wp2_with fail
        refine HC.out.mono ?_
        rintro e w3 ⟨rfl, hb3⟩
        have hb23 := hb2.trans (hb3.mono hb2.size)
        go_wp2_with fail
        go_roundg (gk - 1)
        case measure => have := HJ.out.1; omega
        case rel => exact ⟨j + 1, by have := HJ.out.1; omega, by go_num, HX.out.1, hb23⟩
    · obtain rfl : j = k := by omega
      clear hgk
      have hRf : R = false := by
        rw [HR.out]
        have := HJ.out.2
        rwa [List.take_of_length_le (by rw [← HK.out]; exact Nat.le_refl _)] at this
      subst hRf
      go_wp2_with fail
      go_ret
      exact ⟨rfl, hbo⟩
theorem is_all (c : Int) : ∀ n, IsAll n c
  | 0 => fun t v w hs hok h => by cases t <;> simp [siz] at hs
  | n + 1 => fun t v w hs hok h => by
    cases t with
    | nil => exact hok.elim
    | code d =>
      obtain rfl : v = _ := h
      exact is_code d c w
    | one o p e => exact is_bl n c (is_all c n) _ v w hs hok trivial h
    | two a b => exact is_bl n c (is_all c n) _ v w hs hok trivial h
theorem Bf.comparable (w : World) : ((ReflectliteType.method fun t => do Rtype.noPackHeld "Comparable" t; pure (.bool (← typeInfo t).comparable)) #[.agg #[hd 23]]).run Tryz.prog w = .ok (.bool true) w := by kernel_rfl
theorem Bf.callComparable (w : World) : (callFunc 108 #[.agg #[hd 23]]).run Tryz.prog w = .ok (Next.value (.bool true)) w := by
  have h := @run_callFunc_extern Tryz.prog 108 _ (ReflectliteType.method fun t => do Rtype.noPackHeld "Comparable" t; pure (.bool (← typeInfo t).comparable)) Tryz.func108 (by kernel_rfl) (by kernel_rfl) (by kernel_rfl) (by kernel_rfl) #[.agg #[hd 23]] w
  rw [h, Bf.comparable]
  rfl
set_option maxRecDepth 100000 in
set_option maxHeartbeats 4000000 in
theorem Is_any (t : Er) (v : Value) (c : Int) (w : World) (hok : t.ok) (h : ErV w t v) : Calls Tryz.prog 23 #[v, .iface 23 (.int .i64 c)] w (IsRet w (t.has c)) := by
  obtain ⟨T, x, rfl⟩ := h.iface (ok_nn hok)
  have hcall := is_all c (siz t) t _ w (Nat.le_refl _) hok h
  obtain ⟨R, hR⟩ : ∃ R, R = t.has c := ⟨_, rfl⟩
  rw [← hR] at hcall ⊢
  have hO := Bf.cO
  have hC := Bf.callComparable
  have g10 := Bf.typeOfe
  have g11 := Bf.mComparable
  have HC := Lib.hid hcall
  clear hcall h hR
  go_enter Tryz.func23, Tryz.ntmps23
  go_wp2_with (first | (go_at_call 43; refine HC.out.mono ?_; rintro e w1 ⟨rfl, hb1⟩) | go_in)
  go_ret
  exact ⟨rfl, hb1⟩
set_option maxRecDepth 100000 in
set_option maxHeartbeats 4000000 in
theorem Is_nil (c : Int) (w : World) : Calls Tryz.prog 23 #[.nilIface, .iface 23 (.int .i64 c)] w (IsRet w false) := by
  have heq := run_eql_iface_nil_left (P := Tryz.prog) w 23 (.int .i64 c) Tryz.underlying42
  go_enter Tryz.func23, Tryz.ntmps23
  go_wp2
  go_ret
  exact ⟨rfl, Below.refl _ _⟩
end Go.Proofs.YthhhiiagppckhaaGreatDoor
end
