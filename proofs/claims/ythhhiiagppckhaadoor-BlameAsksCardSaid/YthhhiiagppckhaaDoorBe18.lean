/- Errors: the number 0; rows of errors read; conditions: none beyond their hypotheses. -/
import Derived.Test.YthhhiiagppckhaaDoorBe15b
import Derived.Test.YthhhiiagppckhaaDoorBe17
namespace Go.Proofs.YthhhiiagppckhaaDoor
open Go.RowKit Go.Proofs.U Go.Proofs.Bp
set_option linter.unusedVariables false

set_option maxRecDepth 100000 in
set_option maxHeartbeats 4000000 in
theorem codes_code0 (w : World) (hg : ErrT w) : Calls Tryd.prog 26 #[.iface 23 (.int .i64 0)] w (CodesRet w []) := by
  have hb0 := boxed w (.cells #[.pointer none] 60)
  go_enter Tryd.func26, Tryd.ntmps26
  go_wp2_with fail
  generalize w.alloc (.cells #[.pointer none] 60) = w0 at hb0 ⊢
  refine (As_eb 0 _ w0 (hg.below hb0)).mono ?_
  rintro e w1 ⟨rfl, hb1⟩
  have hbw1 := hb0.trans (hb1.mono hb0.size)
  go_wp2_with fail
  have hb2 := boxed w1 (.cells #[.int .i64 0] 23)
  have hc2 : (w1.alloc (.cells #[.int .i64 0] 23)).cell? ⟨w1.heap.size, 0, none⟩ = some (.int .i64 0) := by simp
  have hf2 : (w1.alloc (.cells #[.int .i64 0] 23)).frozen? ⟨w1.heap.size, 0, none⟩ = false := by simp
  generalize w1.alloc (.cells #[.int .i64 0] 23) = w2 at hb2 hc2 hf2 ⊢
  have hbw2 := hbw1.trans (hb2.mono hbw1.size)
  refine (As_e 0 ⟨w1.heap.size, 0, none⟩ _ w2 (hg.below hbw2) hc2 hf2).mono ?_
  rintro e w3 ⟨rfl, wA, hbA, rfl⟩
  have hbw3 : Below w.heap.size w (wA.setCell ⟨w1.heap.size, 0, none⟩ (.int .i64 0)) := (hbw2.trans (hbA.mono hbw2.size)).setCell (p := ⟨w1.heap.size, 0, none⟩) hbw1.size _
  have hc3 : (wA.setCell ⟨w1.heap.size, 0, none⟩ (.int .i64 0)).cell? ⟨w1.heap.size, 0, none⟩ = some (.int .i64 0) := cell_set (cell_below hc2 hbA)
  generalize wA.setCell ⟨w1.heap.size, 0, none⟩ (.int .i64 0) = w3 at hbw3 hc3 ⊢
  clear hc2 hf2
  go_wp2_with fail
  go_ret
  exact ⟨none, 0, 0, rfl, rfl, OwnC.nil _ _, hbw3⟩
set_option maxRecDepth 100000 in
set_option maxHeartbeats 4000000 in
theorem code_code0 (w : World) (hg : ErrT w) : Calls Tryd.prog 28 #[.iface 23 (.int .i64 0)] w (CodeRet w 0) := by
  go_enter Tryd.func28, Tryd.ntmps28
  go_wp2_with fail
  refine (codes_code0 w hg).mono ?_
  rintro e w1 ⟨A, n, c, rfl, rfl, hown, hb⟩
  have e0 : (([] : List Int).length : Nat) = 0 := rfl
  rw [e0]
  clear e0
  go_wp2_with fail
  go_ret
  exact ⟨rfl, hb⟩
set_option maxRecDepth 100000 in
set_option maxHeartbeats 4000000 in
theorem wrap_code0 (so sp : ByteArray) (w : World) (hg : ErrT w) : Calls Tryd.prog 30 #[.iface 23 (.int .i64 0), .string so, .string sp] w (fun e w' => e = .returned .nilIface ∧ Below w.heap.size w w') := by
  go_enter Tryd.func30, Tryd.ntmps30
  go_wp2_with fail
  refine (code_code0 w hg).mono ?_
  rintro e w1 ⟨rfl, hb1⟩
  go_wp2_with fail
  go_ret
  exact ⟨rfl, hb1⟩
/-- an error of a row -/
theorem OwnE.at_ {w : World} {base n c : Nat} {A : Option Addr} {ts : List Er} (h : OwnE w base A n c ts) {k : Nat} {t : Er} (ht : ts[k]? = some t) : ∃ g v, A = some ⟨g, 0, none⟩ ∧ w.cell? ⟨g, k, none⟩ = some v ∧ ErV w t v := by
  obtain ⟨vs, hown, herr⟩ := h
  have hk := (List.getElem?_eq_some_iff.1 ht).1
  obtain ⟨v, hv⟩ : ∃ v, vs[k]? = some v := ⟨vs[k]'(by rw [herr.1]; exact hk), by simp⟩
  obtain ⟨g, hA, hc⟩ := OwnT.at_ (T := 48) hown hv
  exact ⟨g, v, hA, hc, (herr.2 k v t hv ht).ev⟩
theorem OwnE.below {w w' : World} {base n c : Nat} {A : Option Addr} {ts : List Er} (h : OwnE w base A n c ts) (hb : Below w.heap.size w w') : OwnE w' base A n c ts := by
  obtain ⟨vs, hown, herr⟩ := h
  exact ⟨vs, own_row_below hown hb, herr.below hb⟩
theorem unwrapNil_err (w : World) : Calls Tryd.prog 33 #[.pointer none] w fun e w' => e = .returned (.string ⟨#[]⟩) ∧ w = w' := by
  go_enter Tryd.func33, Tryd.ntmps33
  go_wp2_with fail
  go_ret
  exact ⟨rfl, rfl⟩
/-- what is wrapped: all of it, one by one -/
theorem unwrap_tree (t : Er) (g : Nat) (w : World) (hbl : isBl t) (h : ErV w t (.iface 60 (.pointer (some ⟨g, 0, none⟩)))) :
    Calls Tryd.prog 32 #[.pointer (some ⟨g, 0, none⟩)] w (fun e w' => ∃ A c us, e = .returned (.slice A (subs t).length c) ∧ us.length = (subs t).length ∧ VS w' w'.heap.size A (subs t).length us ∧ (∀ (j : Nat) (u : Value) (x : Er), us[j]? = some u → (subs t)[j]? = some x → ErV w' x u) ∧ Below w.heap.size w w') := by
  obtain ⟨g', us, hv, hk, hul, hus⟩ := h.bl hbl
  simp only [Value.iface.injEq, Value.pointer.injEq, Option.some.injEq, Addr.mk.injEq, and_true, true_and] at hv
  subst hv
  have hone : ∀ u ∈ us, u.oneCell' = true := by
    intro u hu
    obtain ⟨j, hj, rfl⟩ := List.mem_iff_getElem.1 hu
    exact (hus j us[j] ((subs t)[j]'(by omega)) (by simp) (by simp)).one
  have := subs_two t
  refine (unwrap_any g _ _ _ us w hk hone (by omega)).mono fun e w' ⟨A, c, he, hvs, hb, _⟩ => ?_
  rw [hul] at he hvs
  exact ⟨A, c, us, he, hul, hvs, fun j u x h1 h2 => (hus j u x h1 h2).below hb, hb⟩
theorem unwrap_1 (o p : List UInt8) (x : Er) (g : Nat) (w : World) (h : ErV w (.one o p x) (.iface 60 (.pointer (some ⟨g, 0, none⟩)))) :
    Calls Tryd.prog 32 #[.pointer (some ⟨g, 0, none⟩)] w (fun e w' => ∃ b off c u, e = .returned (.slice (some ⟨b, off, none⟩) 1 c) ∧ w'.cell? ⟨b, off, none⟩ = some u ∧ ErV w' x u ∧ Below w.heap.size w w') :=
  (unwrap_tree (.one o p x) g w trivial h).mono fun e w' ⟨A, c, us, he, hul, hvs, hus, hb⟩ => by
    have h0 : 0 < us.length := by rw [hul]; exact Nat.zero_lt_succ _
    obtain ⟨b, off, rfl, -, hc⟩ := hvs.2 (Nat.zero_lt_succ _)
    exact ⟨b, off, c, us[0], he, hc 0 h0, hus 0 us[0] x (by simp) rfl, hb⟩
theorem unwrap_2 (x y : Er) (g : Nat) (w : World) (h : ErV w (.two x y) (.iface 60 (.pointer (some ⟨g, 0, none⟩)))) :
    Calls Tryd.prog 32 #[.pointer (some ⟨g, 0, none⟩)] w (fun e w' => ∃ b off c u1 u2, e = .returned (.slice (some ⟨b, off, none⟩) 2 c) ∧ w'.cell? ⟨b, off, none⟩ = some u1 ∧ w'.cell? ⟨b, off + 1, none⟩ = some u2 ∧ ErV w' x u1 ∧ ErV w' y u2 ∧ Below w.heap.size w w') :=
  (unwrap_tree (.two x y) g w trivial h).mono fun e w' ⟨A, c, us, he, hul, hvs, hus, hb⟩ => by
    have h0 : us.length = 2 := hul
    obtain ⟨b, off, rfl, -, hc⟩ := hvs.2 (Nat.zero_lt_succ _)
    exact ⟨b, off, c, us[0], us[1], he, hc 0 (by omega), hc 1 (by omega), hus 0 us[0] x (by simp) rfl, hus 1 us[1] y (by simp) rfl, hb⟩
/-- a variable that points to a blame -/
def BV (w : World) (g : Nat) (v : Value) : Prop := Blk w g 60 #[v]
theorem BV.cell {w : World} {g : Nat} {v : Value} (h : BV w g v) : w.cell? ⟨g, 0, none⟩ = some v := Blk.cell h 0
theorem BV.free {w : World} {g : Nat} {v : Value} (h : BV w g v) : w.frozen? ⟨g, 0, none⟩ = false := Blk.frozen h 0
theorem BV.below {w w' : World} {g : Nat} {v : Value} (h : BV w g v) (hb : Below w.heap.size w w') : BV w' g v := Blk.stay h hb
theorem BV.set {w : World} {g : Nat} {v : Value} (h : BV w g v) (u : Value) : BV (w.setCell ⟨g, 0, none⟩ u) g u := Blk.set_ h 0 u
theorem BV.new (w : World) (v : Value) : BV (w.alloc (.cells #[v] 60)) w.heap.size v := Blk.new w _ _
/-- errors.As of a blame into such a variable -/
theorem As_bv (e : Option Addr) (g : Nat) (old : Value) (base : Nat) (w0 w : World) (hg : ErrT w) (h : BV w g old) (hb : Below base w0 w) (hbg : base ≤ g) (hbs : base ≤ w.heap.size) :
    Calls Tryd.prog 31 #[.iface 60 (.pointer e), .iface 62 (.pointer (some ⟨g, 0, none⟩))] w (fun e' w' => e' = .returned (.bool true) ∧ BV w' g (.pointer e) ∧ Below base w0 w' ∧ w.grownBy w' (some g)) :=
  (As_b e ⟨g, 0, none⟩ old w hg h.cell h.free).mono fun e' w' ⟨he, wA, hA, hw⟩ => by
    subst hw
    exact ⟨he, (h.below hA).set _, (hb.trans (hA.mono hbs)).setCell (p := ⟨g, 0, none⟩) hbg _, only_setCell (only_below (World.grownBy.refl w (some g)) hA) (.inl rfl) _⟩
end Go.Proofs.YthhhiiagppckhaaDoor
