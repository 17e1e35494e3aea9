/- Faults: light, at; conditions: none beyond their hypotheses. -/
import Derived.Test.YthhhiiagppckhaaDoorBe13
namespace Go.Proofs.YthhhiiagppckhaaDoor
open Go.RowKit Go.Proofs.U Go.Proofs.Bp
set_option linter.unusedVariables false

theorem FS.at_ {w : World} {A : Option Addr} {n k : Nat} {l : List Flt} (h : FS w A n l) {x : Flt} (hx : l[k]? = some x) : ∃ b off, A = some ⟨b, off, none⟩ ∧ b < w.heap.size ∧ w.cell? ⟨b, off + k * 6, none⟩ = some (.int .i64 x.kind) ∧ w.cell? ⟨b, off + k * 6 + 1, none⟩ = some (.int .i64 x.code) ∧
    w.cell? ⟨b, off + k * 6 + 2, none⟩ = some (.string (strOf x.op)) ∧ w.cell? ⟨b, off + k * 6 + 3, none⟩ = some (.string (strOf x.path)) ∧ w.cell? ⟨b, off + k * 6 + 4, none⟩ = some (.int .i64 x.a) ∧ w.cell? ⟨b, off + k * 6 + 5, none⟩ = some (.int .i64 x.b) := by
  have hk := (List.getElem?_eq_some_iff.1 hx).1
  obtain ⟨b, off, e, hlt, hc⟩ := h.2 (by have := h.1; omega)
  exact ⟨b, off, e, hlt, hc k x hx⟩
def fokB (x : Flt) : Bool := decide (x.op.length + x.path.length ≤ 100) && (decide (-1000 ≤ x.code) && decide (x.code ≤ 1000))
theorem fokB_ok {x : Flt} : fokB x = true ↔ FOk x := by unfold fokB FOk; simp
def lightB (l : List Flt) : Bool := l.all fokB && decide (l.length ≤ 10)

set_option maxRecDepth 100000 in
set_option maxHeartbeats 8000000 in
theorem light_any (A : Option Addr) (n c : Nat) (l : List Flt) (w : World) (h : FS w A n l) (hr : ∀ x ∈ l, RngF x) (hn : n ≤ maxLen) :
    Calls Tryd.prog 22 #[.slice A n c] w fun e w' => e = .returned (.bool (lightB l)) ∧ Below w.heap.size w w' := by
  unfold maxLen at hn
  have hl := h.1
  have HL := Lib.hid hl
  obtain ⟨R, hR⟩ : ∃ R, R = lightB l := ⟨_, rfl⟩
  have HR := Lib.hid hR
  rw [← hR]
  clear hl hR
  go_enter Tryd.func22, Tryd.ntmps22
  go_wp2_with fail
  go_loopg [7] n (fun r i wr => ∃ (j : Nat), r + j = n ∧ i = .int .i64 (j : Int) ∧ (l.take j).all fokB = true ∧ Below w.heap.size w wr)
  case atStart => exact ⟨0, rfl, rfl, rfl, Below.refl _ _⟩
  case round =>
    obtain ⟨j, hgk, rfl, hall, hb⟩ := hrel
    obtain ⟨wo, rfl⟩ : ∃ wo : World, wo = wr := ⟨_, rfl⟩
    have HJ := Lib.hid (And.intro hgk hall)
    clear hall
    by_cases hj : j < n
    · clear hgk
      obtain ⟨x, hx⟩ : ∃ x, l[j]? = some x := ⟨l[j]'(by rw [HL.out]; exact hj), by simp⟩
      obtain ⟨b, off, rfl, hlt, c0, c1, c2, c3, c4, c5⟩ := (h.below hb).at_ hx
      have hrx := hr x (List.mem_of_getElem? hx)
      obtain ⟨⟨-, -⟩, ⟨r1, r2⟩, ⟨-, -⟩, ⟨-, -⟩, r3, r4⟩ := hrx
      obtain ⟨so, hso⟩ : ∃ so, so = strOf x.op := ⟨_, rfl⟩
      obtain ⟨sp, hsp⟩ : ∃ sp, sp = strOf x.path := ⟨_, rfl⟩
      have z1 : so.size = x.op.length := by rw [hso, strOf_sz]
      have z2 : sp.size = x.path.length := by rw [hsp, strOf_sz]
      rw [← hso] at c2
      rw [← hsp] at c3
      rw [← z1] at r3
      rw [← z2] at r4
      have hz := strOf_sz x.op
      have htk : (l.take (j + 1)).all fokB = fokB x := by
        rw [take_succ_get l j x hx, List.all_append, HJ.out.2]; simp
      have hno : fokB x = false → R = false := fun hf => by
        rw [HR.out, lightB]
        have : l.all fokB = false := List.all_eq_false.2 ⟨x, List.mem_of_getElem? hx, by rw [hf]; decide⟩
        rw [this]; rfl
      have hfk : fokB x = (decide (so.size + sp.size ≤ 100) && (decide (-1000 ≤ x.code) && decide (x.code ≤ 1000))) := by rw [z1, z2]; rfl
      have HX := Lib.hid (And.intro hx (And.intro htk (And.intro hno hfk)))
      obtain ⟨xk, hxk⟩ : ∃ xk, xk = x.kind := ⟨_, rfl⟩
      obtain ⟨xc, hxc⟩ : ∃ xc, xc = x.code := ⟨_, rfl⟩
      obtain ⟨xa, hxa⟩ : ∃ xa, xa = x.a := ⟨_, rfl⟩
      obtain ⟨xb, hxb⟩ : ∃ xb, xb = x.b := ⟨_, rfl⟩
      rw [← hxk] at c0
      rw [← hxc] at c1 r1 r2
      rw [← hxa] at c4
      rw [← hxb] at c5
      have HC := Lib.hid hxc
      clear hx hso hsp z1 z2 hz htk hno hfk hxk hxc hxa hxb
      by_cases t1 : so.size + sp.size ≤ 100
      · by_cases t2 : -1000 ≤ xc
        · by_cases t3 : xc ≤ 1000
          · have hok : fokB x = true := by rw [HX.out.2.2.2, ← HC.out]; simp [t1, t2, t3]
            have HO := Lib.hid hok
            clear hok
            go_wp2_with fail
            go_roundg (gk - 1)
            case measure => have := HJ.out.1; omega
            case rel => exact ⟨j + 1, by have := HJ.out.1; omega, by go_num, by rw [HX.out.2.1]; exact HO.out, hb.trans ((boxed wo _).mono hb.size)⟩
          · have hno := HX.out.2.2.1 (by rw [HX.out.2.2.2, ← HC.out]; simp [t3])
            have HN := Lib.hid hno
            clear hno
            have d1 : decide ((100 : Int) < (so.size : Int) + (sp.size : Int)) = false := by simp; omega
            have d2 : decide (xc < -1000) = false := by simp; omega
            have d3 : decide (1000 < xc) = true := by simp; omega
            go_wp2_with fail
            go_ret
            exact ⟨by rw [HN.out]; rfl, hb.trans ((boxed wo _).mono hb.size)⟩
        · have hno := HX.out.2.2.1 (by rw [HX.out.2.2.2, ← HC.out]; simp [t2])
          have HN := Lib.hid hno
          clear hno
          have d1 : decide ((100 : Int) < (so.size : Int) + (sp.size : Int)) = false := by simp; omega
          have d2 : decide (xc < -1000) = true := by simp; omega
          go_wp2_with fail
          go_ret
          exact ⟨by rw [HN.out]; rfl, hb.trans ((boxed wo _).mono hb.size)⟩
      · have hno := HX.out.2.2.1 (by rw [HX.out.2.2.2]; simp [t1])
        have HN := Lib.hid hno
        clear hno
        have d1 : decide ((100 : Int) < (so.size : Int) + (sp.size : Int)) = true := by simp; omega
        go_wp2_with fail
        go_ret
        exact ⟨by rw [HN.out]; rfl, hb.trans ((boxed wo _).mono hb.size)⟩
    · obtain rfl : j = n := by omega
      clear hgk
      have hR2 : R = decide ((j : Int) ≤ 10) := by
        have h1 : (l.take j).all fokB = true := HJ.out.2
        rw [List.take_of_length_le (by rw [HL.out]; exact Nat.le_refl _)] at h1
        rw [HR.out, lightB, h1, HL.out, Bool.true_and]; congr 1; apply propext; omega
      have HR2 := Lib.hid hR2
      clear hR2
      go_wp2_with fail
      go_ret
      exact ⟨by rw [HR2.out]; rfl, hb⟩

/-- errors in a row -/
def ErrsV (N : Nat → Prop) (w : World) (vs : List Value) (ts : List Er) : Prop := vs.length = ts.length ∧ ∀ (j : Nat) (v : Value) (t : Er), vs[j]? = some v → ts[j]? = some t → ErVn N w t v
theorem ErrsV.below {N : Nat → Prop} {w w' : World} {vs : List Value} {ts : List Er} (h : ErrsV N w vs ts) (hb : Below w.heap.size w w') : ErrsV N w' vs ts := ⟨h.1, fun j v t h1 h2 => (h.2 j v t h1 h2).below hb⟩
theorem ErrsV.one {N : Nat → Prop} {w : World} {vs : List Value} {ts : List Er} (h : ErrsV N w vs ts) : ∀ u ∈ vs, u.oneCell' = true := by
  intro u hu
  obtain ⟨j, hj, rfl⟩ := List.mem_iff_getElem.1 hu
  exact (h.2 j vs[j] (ts[j]'(by rw [← h.1]; exact hj)) (by simp) (by simp)).one
theorem ErrsV.snoc {N : Nat → Prop} {w : World} {vs : List Value} {ts : List Er} {v : Value} {t : Er} (h : ErrsV N w vs ts) (hv : ErVn N w t v) : ErrsV N w (vs ++ [v]) (ts ++ [t]) := by
  refine ⟨by simp [h.1], fun j v' t' h1 h2 => ?_⟩
  by_cases hj : j < vs.length
  · rw [List.getElem?_append_left hj] at h1
    rw [List.getElem?_append_left (by rw [← h.1]; exact hj)] at h2
    exact h.2 j v' t' h1 h2
  · rw [List.getElem?_append_right (by omega)] at h1
    rw [List.getElem?_append_right (by rw [← h.1]; omega)] at h2
    rw [← h.1] at h2
    have h0 : j - vs.length = 0 := by
      have := (List.getElem?_eq_some_iff.1 h1).1; simp at this; omega
    rw [h0] at h1 h2
    simp at h1 h2
    subst h1 h2
    exact hv
def AtRet (N : Nat → Prop) (w : World) (t : Er) (e : Ending) (w' : World) : Prop := ∃ v, e = .returned v ∧ ErVn N w t v ∧ w = w'
set_option maxRecDepth 100000 in
set_option maxHeartbeats 4000000 in
theorem at_any {N : Nat → Prop} (A : Option Addr) (n c : Nat) (vs : List Value) (ts : List Er) (k : Int) (w : World) (hk : -9223372036854775808 ≤ k ∧ k ≤ 9223372036854775807) (hvs : VS w w.heap.size A n vs) (h : ErrsV N w vs ts) (hn : n ≤ 1000) :
    Calls Tryd.prog 67 #[.slice A n c, .int .i64 k] w (AtRet N w (atE ts k)) := by
  have hl := hvs.1
  obtain ⟨hk1, hk2⟩ := hk
  by_cases h0 : k < 0
  · have ht : atE ts k = .nil := by unfold atE; rw [if_pos h0]
    rw [ht]
    clear ht hl
    have d0 : decide (k < 0) = true := decide_eq_true h0
    go_enter Tryd.func67, Tryd.ntmps67
    go_wp2_with fail
    go_ret
    exact ⟨_, rfl, rfl, rfl⟩
  · obtain ⟨m, rfl⟩ : ∃ m : Nat, k = (m : Int) := ⟨k.toNat, by omega⟩
    have d0 : decide ((m : Int) < 0) = false := decide_eq_false h0
    by_cases h1 : m < n
    · obtain ⟨v, hv⟩ : ∃ v, vs[m]? = some v := ⟨vs[m]'(by omega), by simp⟩
      obtain ⟨t, htt⟩ : ∃ t, ts[m]? = some t := ⟨ts[m]'(by rw [← h.1]; omega), by simp⟩
      have ht : atE ts (m : Int) = t := by unfold atE; rw [if_neg h0, Int.toNat_natCast, htt]; rfl
      have hev := h.2 m v t hv htt
      obtain ⟨b, off, rfl, hlt, -⟩ := hvs.2 (by omega)
      have c1 := VS.nth hvs hv
      rw [ht]
      have d1 : decide ((n : Int) ≤ (m : Int)) = false := by simp; omega
      clear hl hv htt ht h hvs
      go_enter Tryd.func67, Tryd.ntmps67
      go_wp2_with fail
      go_ret
      exact ⟨_, rfl, hev, rfl⟩
    · have ht : atE ts (m : Int) = .nil := by
        unfold atE; rw [if_neg h0, Int.toNat_natCast, List.getElem?_eq_none (by rw [← h.1]; omega)]; rfl
      rw [ht]
      have d1 : decide ((n : Int) ≤ (m : Int)) = true := by simp; omega
      clear ht hl
      go_enter Tryd.func67, Tryd.ntmps67
      go_wp2_with fail
      go_ret
      exact ⟨_, rfl, rfl, rfl⟩
end Go.Proofs.YthhhiiagppckhaaDoor
