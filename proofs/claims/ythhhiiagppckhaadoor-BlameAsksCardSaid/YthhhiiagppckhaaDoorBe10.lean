/- Errors: made, wrapped, put together; conditions: none beyond their hypotheses. -/
import Derived.Test.YthhhiiagppckhaaDoorBe9
namespace Go.Proofs.YthhhiiagppckhaaDoor
open Go.RowKit Go.Proofs.U Go.Proofs.Bp
set_option linter.unusedVariables false

theorem steps_all : ∀ n, n ≤ 1000000 → StepsAll n
  | 0, _ => fun t v w hs hok hl h hg => by cases t <;> simp [siz] at hs
  | n + 1, hn => fun t v w hs hok hl h hg => by
    cases t with
    | nil => exact hok.elim
    | code c =>
      obtain rfl : v = _ := h
      exact steps_code c w hg
    | one o p e => exact steps_one n (by omega) (steps_all n (by omega)) o p e v w hs hok hl h hg
    | two a b => exact steps_two n (by omega) (steps_all n (by omega)) a b v w hs hok hl h hg
theorem steps_any (t : Er) (v : Value) (w : World) (hs : siz t ≤ 1000000) (hok : EOk t) (hl : Lt t) (h : ErV w t v) (hg : ErrT w) : Calls Tryd.prog 27 #[v] w (StepsRet w t.steps) := by
  rcases hok with rfl | hok
  · obtain rfl : v = _ := h
    exact steps_nil w
  · exact steps_all 1000000 (Nat.le_refl _) t v w hs hok hl h hg
theorem ok_first0 : ∀ {t : Er}, t.ok → first0 t.codes ≠ 0
  | .code c, h => by simp only [Er.codes]; rw [if_neg (show ¬ c = 0 from h)]; exact h
  | .one _ _ e, h => ok_first0 (t := e) h
  | .two a b, h => by
    have h1 := ok_first0 (t := a) h.1
    simp only [Er.codes]
    cases hl : a.codes with
    | nil => rw [hl] at h1; exact absurd rfl h1
    | cons x r => rw [hl] at h1; exact h1
def ErRetN (N : Nat → Prop) (w : World) (t : Er) (e : Ending) (w' : World) : Prop := ∃ v, e = .returned v ∧ ErVn N w' t v ∧ Below w.heap.size w w'
abbrev ErRet := ErRetN (fun _ => True)
theorem blm_new {N : Nat → Prop} (w : World) (o p : List UInt8) (both : Bool) (us : List Value) (vs : Array Value) (hvs : vs = us.toArray) (n : Nat) (hn : n = us.length) (so sp : ByteArray) (ho : so = strOf o) (hp : sp = strOf p) (hN : ∀ b, w.heap.size ≤ b → N b) :
    BlmAtN N ((w.alloc (.cells vs 48)).alloc (.cells #[.string so, .string sp, .bool both, .slice (some ⟨w.heap.size, 0, none⟩) n n] 123)) (w.heap.size + 1) o p both us := by
  subst hvs ho hp hn
  have hk : Blk ((w.alloc (.cells us.toArray 48)).alloc (.cells #[.string (strOf o), .string (strOf p), .bool both, .slice (some ⟨w.heap.size, 0, none⟩) us.length us.length] 123)) (w.heap.size + 1) 123 #[.string (strOf o), .string (strOf p), .bool both, .slice (some ⟨w.heap.size, 0, none⟩) us.length us.length] := by
    have := Blk.new (w.alloc (.cells us.toArray 48)) 123 #[.string (strOf o), .string (strOf p), .bool both, .slice (some ⟨w.heap.size, 0, none⟩) us.length us.length]
    rwa [World.size_alloc] at this
  have hu : Blk ((w.alloc (.cells us.toArray 48)).alloc (.cells #[.string (strOf o), .string (strOf p), .bool both, .slice (some ⟨w.heap.size, 0, none⟩) us.length us.length] 123)) w.heap.size 48 us.toArray := (Blk.new w 48 us.toArray).alloc _
  refine ⟨w.heap.size, hk.cell 0, hk.cell 1, hk.cell 2, hk.cell 3, hu.lt, fun j u hj => ?_, hN _ (by omega), hN _ (Nat.le_refl _)⟩
  rw [hu.cell, List.getElem?_toArray]; exact hj
theorem ErVn.iface {N : Nat → Prop} {w : World} {t : Er} {v : Value} (h : ErVn N w t v) (ht : t ≠ .nil) : ∃ T x, v = .iface T x := by
  cases t with
  | nil => exact absurd rfl ht
  | code c => exact ⟨_, _, h⟩
  | one o p e => obtain ⟨g, u, hv, _⟩ := h; exact ⟨_, _, hv⟩
  | two a b => obtain ⟨g, u1, u2, hv, _⟩ := h; exact ⟨_, _, hv⟩
theorem ok_nn {t : Er} (h : t.ok) : t ≠ .nil := fun e => by subst e; exact h
theorem two_new (w : World) (o1 o2 : Obj) : Below w.heap.size w ((w.alloc o1).alloc o2) := ((Below.refl _ _).alloc (Nat.le_refl _) _).alloc (by simp) _

set_option maxRecDepth 100000 in
set_option maxHeartbeats 4000000 in
theorem of_any {N : Nat → Prop} (c : Int) (hc : c ≠ 0) (o p : List UInt8) (w : World) (hN : ∀ b, w.heap.size ≤ b → N b) : Calls Tryd.prog 66 #[.int .i64 c, .string (strOf o), .string (strOf p)] w (ErRetN N w (.one o p (.code c))) := by
  have hc0 : (c == 0) = false := by simpa using hc
  obtain ⟨so, hso⟩ : ∃ so, so = strOf o := ⟨_, rfl⟩
  obtain ⟨sp, hsp⟩ : ∃ sp, sp = strOf p := ⟨_, rfl⟩
  rw [← hso, ← hsp]
  have HS := Lib.hid (And.intro hso hsp)
  clear hso hsp hc
  go_enter Tryd.func66, Tryd.ntmps66
  go_wp2_with fail
  go_ret
  exact ⟨_, rfl, ⟨w.heap.size + 1, _, rfl, blm_new w o p false [_] _ rfl 1 rfl _ _ HS.out.1 HS.out.2 hN, rfl⟩, two_new _ _ _⟩
set_option maxRecDepth 100000 in
set_option maxHeartbeats 4000000 in
theorem of_zero (so sp : ByteArray) (w : World) : Calls Tryd.prog 66 #[.int .i64 0, .string so, .string sp] w (ErRet w .nil) := by
  go_enter Tryd.func66, Tryd.ntmps66
  go_wp2_with fail
  go_ret
  exact ⟨_, rfl, rfl, Below.refl _ _⟩
set_option maxRecDepth 100000 in
set_option maxHeartbeats 4000000 in
theorem wrap_any {N : Nat → Prop} (t : Er) (v : Value) (o p : List UInt8) (w : World) (hs : siz t ≤ 1000000) (hok : t.ok) (h : ErVn N w t v) (hg : ErrT w) (hN : ∀ b, w.heap.size ≤ b → N b) : Calls Tryd.prog 30 #[v, .string (strOf o), .string (strOf p)] w (ErRetN N w (.one o p t)) := by
  obtain ⟨T, x, rfl⟩ := h.iface (ok_nn hok)
  obtain ⟨c, hcc⟩ : ∃ c, c = first0 t.codes := ⟨_, rfl⟩
  have hc0 : (c == 0) = false := by have := ok_first0 hok; rw [hcc]; simpa using this
  obtain ⟨so, hso⟩ : ∃ so, so = strOf o := ⟨_, rfl⟩
  obtain ⟨sp, hsp⟩ : ∃ sp, sp = strOf p := ⟨_, rfl⟩
  have hcode := code_any t _ w hs (.inr hok) h.ev hg
  rw [← hcc] at hcode
  rw [← hso, ← hsp]
  have HS := Lib.hid (And.intro hso hsp)
  clear hso hsp hcc
  go_enter Tryd.func30, Tryd.ntmps30
  go_wp2_with fail
  refine hcode.mono ?_
  rintro e w1 ⟨rfl, hb1⟩
  go_wp2_with fail
  go_ret
  have hb2 := two_new w1 (.cells #[.iface T x] 48) (.cells #[.string so, .string sp, .bool false, .slice (some ⟨w1.heap.size, 0, none⟩) 1 1] 123)
  exact ⟨_, rfl, ⟨w1.heap.size + 1, _, rfl, blm_new w1 o p false [_] _ rfl 1 rfl _ _ HS.out.1 HS.out.2 (fun b hb => hN b (Nat.le_trans hb1.size hb)), (h.below hb1).below hb2⟩, hb1.trans (hb2.mono hb1.size)⟩
set_option maxRecDepth 100000 in
set_option maxHeartbeats 4000000 in
theorem wrap_nil (so sp : ByteArray) (w : World) (hg : ErrT w) : Calls Tryd.prog 30 #[.nilIface, .string so, .string sp] w (ErRet w .nil) := by
  go_enter Tryd.func30, Tryd.ntmps30
  go_wp2_with fail
  refine (code_any .nil .nilIface w (by decide) (.inl rfl) rfl hg).mono ?_
  rintro e w1 ⟨rfl, hb1⟩
  have hz : first0 Er.nil.codes = 0 := rfl
  rw [hz]
  clear hz
  go_wp2_with fail
  go_ret
  exact ⟨_, rfl, rfl, hb1⟩
/-- two together -/
def bothT : Er → Er → Er
  | .nil, b => b
  | a, .nil => a
  | a, b => .two a b
theorem ok_cases {t : Er} (h : EOk t) : t = .nil ∨ (t ≠ .nil ∧ t.ok) := by
  rcases h with rfl | h
  · exact .inl rfl
  · exact .inr ⟨fun e => by subst e; exact h, h⟩
theorem bothT_two {a b : Er} (ha : a ≠ .nil) (hb : b ≠ .nil) : bothT a b = .two a b := by
  cases a with
  | nil => exact absurd rfl ha
  | _ => cases b with
    | nil => exact absurd rfl hb
    | _ => rfl
theorem bothT_left {a : Er} : bothT a .nil = a := by cases a <;> rfl
set_option maxRecDepth 100000 in
set_option maxHeartbeats 4000000 in
theorem both_any {N : Nat → Prop} (a b : Er) (va vb : Value) (w : World) (ha : siz a ≤ 1000000) (hb : siz b ≤ 1000000) (oka : EOk a) (okb : EOk b) (h1 : ErVn N w a va) (h2 : ErVn N w b vb) (hg : ErrT w) (hN : ∀ b, w.heap.size ≤ b → N b) :
    Calls Tryd.prog 34 #[va, vb] w (ErRetN N w (bothT a b)) := by
  have hA : ∀ w1, Below w.heap.size w w1 → Calls Tryd.prog 28 #[va] w1 (CodeRet w1 (first0 a.codes)) := fun w1 hb1 => code_any a va w1 ha oka (h1.ev.below hb1) (hg.below hb1)
  have hB : ∀ w1, Below w.heap.size w w1 → Calls Tryd.prog 28 #[vb] w1 (CodeRet w1 (first0 b.codes)) := fun w1 hb1 => code_any b vb w1 hb okb (h2.ev.below hb1) (hg.below hb1)
  obtain ⟨ca, hca⟩ : ∃ c, c = first0 a.codes := ⟨_, rfl⟩
  obtain ⟨cb, hcb⟩ : ∃ c, c = first0 b.codes := ⟨_, rfl⟩
  rw [← hca] at hA
  rw [← hcb] at hB
  have HA := Lib.hid hA
  have HB := Lib.hid hB
  clear hA hB
  rcases ok_cases oka with rfl | ⟨na, ka⟩
  all_goals rcases ok_cases okb with rfl | ⟨nb, kb⟩
  · have e1 : (ca == 0) = true := by rw [hca]; rfl
    have e2 : (cb == 0) = true := by rw [hcb]; rfl
    clear hca hcb
    go_enter Tryd.func34, Tryd.ntmps34
    go_wp2_with fail
    refine (HA.out _ (Below.refl _ _)).mono ?_
    rintro e w1 ⟨rfl, hb1⟩
    go_wp2_with fail
    refine (HB.out _ hb1).mono ?_
    rintro e w2 ⟨rfl, hb2⟩
    have hbw2 := hb1.trans (hb2.mono hb1.size)
    go_wp2_with fail
    go_ret
    exact ⟨_, rfl, rfl, hbw2⟩
  · have e1 : (ca == 0) = true := by rw [hca]; rfl
    have e2 : (cb == 0) = false := by have := ok_first0 kb; rw [hcb]; simpa using this
    clear hca hcb
    go_enter Tryd.func34, Tryd.ntmps34
    go_wp2_with fail
    refine (HA.out _ (Below.refl _ _)).mono ?_
    rintro e w1 ⟨rfl, hb1⟩
    go_wp2_with fail
    refine (HB.out _ hb1).mono ?_
    rintro e w2 ⟨rfl, hb2⟩
    have hbw2 := hb1.trans (hb2.mono hb1.size)
    go_wp2_with fail
    refine (HA.out _ hbw2).mono ?_
    rintro e w3 ⟨rfl, hb3⟩
    have hbw3 := hbw2.trans (hb3.mono hbw2.size)
    go_wp2_with fail
    go_ret
    exact ⟨_, rfl, h2.below hbw3, hbw3⟩
  · have e1 : (ca == 0) = false := by have := ok_first0 ka; rw [hca]; simpa using this
    have e2 : (cb == 0) = true := by rw [hcb]; rfl
    clear hca hcb
    rw [bothT_left]
    go_enter Tryd.func34, Tryd.ntmps34
    go_wp2_with fail
    refine (HA.out _ (Below.refl _ _)).mono ?_
    rintro e w1 ⟨rfl, hb1⟩
    go_wp2_with fail
    refine (HA.out _ hb1).mono ?_
    rintro e w2 ⟨rfl, hb2⟩
    have hbw2 := hb1.trans (hb2.mono hb1.size)
    go_wp2_with fail
    refine (HB.out _ hbw2).mono ?_
    rintro e w3 ⟨rfl, hb3⟩
    have hbw3 := hbw2.trans (hb3.mono hbw2.size)
    go_wp2_with fail
    go_ret
    exact ⟨_, rfl, h1.below hbw3, hbw3⟩
  · have e1 : (ca == 0) = false := by have := ok_first0 ka; rw [hca]; simpa using this
    have e2 : (cb == 0) = false := by have := ok_first0 kb; rw [hcb]; simpa using this
    clear hca hcb
    rw [bothT_two na nb]
    obtain ⟨Ta, xa, rfl⟩ := h1.iface na
    obtain ⟨Tb, xb, rfl⟩ := h2.iface nb
    go_enter Tryd.func34, Tryd.ntmps34
    go_wp2_with fail
    refine (HA.out _ (Below.refl _ _)).mono ?_
    rintro e w1 ⟨rfl, hb1⟩
    go_wp2_with fail
    refine (HA.out _ hb1).mono ?_
    rintro e w2 ⟨rfl, hb2⟩
    have hbw2 := hb1.trans (hb2.mono hb1.size)
    go_wp2_with fail
    refine (HB.out _ hbw2).mono ?_
    rintro e w3 ⟨rfl, hb3⟩
    have hbw3 := hbw2.trans (hb3.mono hbw2.size)
    go_wp2_with fail
    go_ret
    have hb4 := two_new w3 (.cells #[.iface Ta xa, .iface Tb xb] 48) (.cells #[.string ⟨#[]⟩, .string ⟨#[]⟩, .bool true, .slice (some ⟨w3.heap.size, 0, none⟩) 2 2] 123)
    exact ⟨_, rfl, ⟨w3.heap.size + 1, _, _, rfl, blm_new w3 [] [] true [_, _] _ rfl 2 rfl _ _ rfl rfl (fun b hb => hN b (Nat.le_trans hbw3.size hb)), (h1.below hbw3).below hb4, (h2.below hbw3).below hb4⟩, hbw3.trans (hb4.mono hbw3.size)⟩
end Go.Proofs.YthhhiiagppckhaaDoor
