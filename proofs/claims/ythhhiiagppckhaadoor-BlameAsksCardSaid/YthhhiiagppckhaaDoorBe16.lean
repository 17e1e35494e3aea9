/- The document's codes of a fault; conditions: none beyond their hypotheses. -/
import Derived.Test.YthhhiiagppckhaaDoorBe15
namespace Go.Proofs.YthhhiiagppckhaaDoor
open Go.RowKit Go.Proofs.U Go.Proofs.Bp
set_option linter.unusedVariables false

theorem infoI : (Tryd.prog.info? 3).map (fun i => (i.zero, i.size, i.bytes)) = some (some (.int .i64 0), 1, 8) := by kernel_rfl
/-- a row of one-cell things that the call made -/
def OwnT (T : TypeId) (w : World) (base : Nat) (A : Option Addr) (n c : Nat) (vs : List Value) : Prop := w.ownsRow base T 1 (.slice A n c) n vs
theorem OwnT.nil (T : TypeId) (w : World) (base : Nat) : OwnT T w base none 0 0 [] := World.ownsRow_nil w base _ 1
theorem OwnT.below {T : TypeId} {w w' : World} {base n c : Nat} {A : Option Addr} {l : List Value} (h : OwnT T w base A n c l) (hb : Below w.heap.size w w') : OwnT T w' base A n c l := own_row_below h hb
theorem OwnT.vs {T : TypeId} {w : World} {base n c : Nat} {A : Option Addr} {l : List Value} (h : OwnT T w base A n c l) : VS w w.heap.size A n l := ownsRow_vs h
theorem OwnT.len {T : TypeId} {w : World} {base n c : Nat} {A : Option Addr} {l : List Value} (h : OwnT T w base A n c l) : l.length = n := by have := h.1; omega
theorem OwnT.mono {T : TypeId} {w : World} {base base' n c : Nat} {A : Option Addr} {l : List Value} (h : OwnT T w base A n c l) (hb : base' ≤ base) : OwnT T w base' A n c l := by
  refine ⟨h.1, ?_⟩
  rcases h.2 with h2 | ⟨g, cap, cur, hv, hg, r⟩
  · exact .inl h2
  · exact .inr ⟨g, cap, cur, hv, by omega, r⟩
theorem OwnT.made (T : TypeId) (w : World) (base : Nat) (hb : base ≤ w.heap.size) : OwnT T (w.alloc (.cells #[] T)) base (some ⟨w.heap.size, 0, none⟩) 0 0 [] :=
  ⟨rfl, .inr ⟨w.heap.size, 0, _, rfl, hb, heap_alloc_new w _, Nat.le_refl _, by decide, rfl, rfl⟩⟩
theorem OwnT.new (T : TypeId) (w : World) (base : Nat) (v : Value) (hb : base ≤ w.heap.size) : OwnT T (w.alloc (.cells #[v] T)) base (some ⟨w.heap.size, 0, none⟩) 1 1 [v] :=
  ⟨rfl, .inr ⟨w.heap.size, 1, _, rfl, hb, heap_alloc_new w _, Nat.le_refl _, by decide, rfl, rfl⟩⟩
theorem OwnT.at_ {T : TypeId} {w : World} {base n c : Nat} {A : Option Addr} {l : List Value} (h : OwnT T w base A n c l) {k : Nat} {x : Value} (hx : l[k]? = some x) : ∃ g, A = some ⟨g, 0, none⟩ ∧ w.cell? ⟨g, k, none⟩ = some x := by
  have hk := (List.getElem?_eq_some_iff.1 hx).1
  have hl := h.len
  obtain ⟨g, cap, hv, hb, hlt⟩ := World.ownsRow.form h (by omega)
  injection hv with hA
  subst hA
  have := VS.nth h.vs hx
  rw [Nat.zero_add] at this
  exact ⟨g, rfl, this⟩
def OwnI := OwnT 3
def IntsRet (w : World) (l : List Int) (e : Ending) (w' : World) : Prop := ∃ A n c, n = l.length ∧ e = .returned (.slice A n c) ∧ OwnT 3 w' w.heap.size A n c (l.map cv) ∧ Below w.heap.size w w'
def RC (n : Nat) : Prop := ∀ (A : Option Addr) (m c : Nat) (l : List Flt) (i : Int) (w : World), m < n → (-9223372036854775808 ≤ i ∧ i ≤ 9223372036854775807) → FS w A m l → m ≤ c → (∀ x ∈ l, RngF x) → (∀ x ∈ l, FOk x) → Calls Tryd.prog 24 #[.slice A m c, .int .i64 i] w (IntsRet w (atE (madeE l) i).codes)

theorem atE_out {l : List Flt} {i : Int} (h : i < 0 ∨ (l.length : Int) ≤ i) : atE (madeE l) i = .nil := by
  unfold atE; split
  · rfl
  · rw [List.getElem?_eq_none (by rw [madeE_len]; omega)]; rfl
theorem atE_in {l : List Flt} {k : Nat} {x : Flt} (h : l[k]? = some x) : atE (madeE l) (k : Int) = stepE (madeE (l.take k)) x := by
  unfold atE; rw [if_neg (by omega), Int.toNat_natCast, madeE_at l k x h]; rfl
theorem codes_out (w : World) (A : Option Addr) (m c : Nat) (l : List Flt) (i : Int) (hi : -9223372036854775808 ≤ i ∧ i ≤ 9223372036854775807) (hm : m ≤ 1000) (h : FS w A m l) (ho : i < 0 ∨ (m : Int) ≤ i) :
    Calls Tryd.prog 24 #[.slice A m c, .int .i64 i] w (IntsRet w (atE (madeE l) i).codes) := by
  rw [atE_out (by rw [h.1]; exact ho)]
  obtain ⟨h1, h2⟩ := hi
  clear h
  by_cases h0 : i < 0
  · have d0 : decide (i < 0) = true := decide_eq_true h0
    go_enter Tryd.func24, Tryd.ntmps24
    go_wp2_with fail
    go_ret
    exact ⟨none, 0, 0, rfl, rfl, OwnT.nil _ _ _, Below.refl _ _⟩
  · have d0 : decide (i < 0) = false := decide_eq_false h0
    have d1 : decide ((m : Int) ≤ i) = true := decide_eq_true (by omega)
    clear ho
    go_enter Tryd.func24, Tryd.ntmps24
    go_wp2_with fail
    go_ret
    exact ⟨none, 0, 0, rfl, rfl, OwnT.nil _ _ _, Below.refl _ _⟩
theorem acodes_len {t : Er} {n : Nat} (h : Bp.Good n t) (hn : n ≤ 10) : t.codes.length ≤ 1000000 := Nat.le_trans (codes_len t) (good_siz h hn)
theorem good_at (l : List Flt) (hok : ∀ x ∈ l, FOk x) (i : Int) : Bp.Good l.length (atE (madeE l) i) := by
  unfold atE; split
  · exact Bp.Good.nil _
  · cases e : (madeE l)[i.toNat]? with
    | none => exact Bp.Good.nil _
    | some t => exact Good.made l hok t (List.mem_of_getElem? e)

set_option maxRecDepth 100000 in
set_option maxHeartbeats 16000000 in
theorem rcodes_step (n : Nat) (ih : RC n) (A : Option Addr) (c : Nat) (l : List Flt) (k : Nat) (w : World) (hk : k < n) (hn : n ≤ 10) (h : FS w A n l) (hc : n ≤ c) (hr : ∀ x ∈ l, RngF x) (hok : ∀ x ∈ l, FOk x) :
    Calls Tryd.prog 24 #[.slice A n c, .int .i64 (k : Int)] w (IntsRet w (atE (madeE l) (k : Int)).codes) := by
  obtain ⟨x, hx⟩ : ∃ x, l[k]? = some x := ⟨l[k]'(by rw [h.1]; exact hk), by simp⟩
  rw [atE_in hx]
  obtain ⟨b, off, rfl, hlt, c0, c1, c2, c3, c4, c5⟩ := h.at_ hx
  obtain ⟨⟨k1, k2⟩, ⟨r1, r2⟩, ⟨a1, a2⟩, ⟨b1, b2⟩, r3, r4⟩ := hr x (List.mem_of_getElem? hx)
  have hft := h.take (k := k) (by omega)
  have hrt : ∀ y ∈ l.take k, RngF y := fun y hy => hr y (List.mem_of_mem_take hy)
  have hot : ∀ y ∈ l.take k, FOk y := fun y hy => hok y (List.mem_of_mem_take hy)
  have htl : (l.take k).length = k := by rw [List.length_take, h.1]; omega
  obtain ⟨xk, xc, xo, xp, xa, xb⟩ := x
  simp only at c0 c1 c2 c3 c4 c5 k1 k2 r1 r2 a1 a2 b1 b2 r3 r4
  have hih : ∀ (i : Int) w', (-9223372036854775808 ≤ i ∧ i ≤ 9223372036854775807) → Below w.heap.size w w' → Calls Tryd.prog 24 #[.slice (some ⟨b, off, none⟩) k c, .int .i64 i] w' (IntsRet w' (atE (madeE (l.take k)) i).codes) := fun i w' hi hb => ih _ k c (l.take k) i w' hk hi (hft.below hb) (by omega) hrt hot
  have hla : ∀ i, (atE (madeE (l.take k)) i).codes.length ≤ 1000000 := fun i => by
    have := good_at (l.take k) hot i
    rw [htl] at this
    exact acodes_len this (by omega)
  obtain ⟨out, hout⟩ : ∃ out, out = madeE (l.take k) := ⟨_, rfl⟩
  rw [← hout] at hih hla ⊢
  have HI := Lib.hid (And.intro hih hla)
  obtain ⟨so, hso⟩ : ∃ so, so = strOf xo := ⟨_, rfl⟩
  obtain ⟨sp, hsp⟩ : ∃ sp, sp = strOf xp := ⟨_, rfl⟩
  rw [← hso] at c2
  rw [← hsp] at c3
  have hkk : k ≤ c := by omega
  have d9 : decide ((k : Int) < 0) = false := decide_eq_false (by omega)
  have d8 : decide ((n : Int) ≤ (k : Int)) = false := decide_eq_false (by omega)
  have i1 : (0 : Int) ≤ (k : Int) := by omega
  have i2 : (k : Int) ≤ (c : Int) := by omega
  clear hih hla hx hft hrt hot htl hout hso hsp r3 r4 hr hok h ih hc
  have hb1 := boxed w (.cells #[.int .i64 xk, .int .i64 xc, .string so, .string sp, .int .i64 xa, .int .i64 xb] 120)
  have hk1 : Blk (w.alloc (.cells #[.int .i64 xk, .int .i64 xc, .string so, .string sp, .int .i64 xa, .int .i64 xb] 120)) w.heap.size 120 #[.int .i64 xk, .int .i64 xc, .string so, .string sp, .int .i64 xa, .int .i64 xb] := Blk.new _ _ _
  have e0 := hk1.cell 0
  have e1 := hk1.cell 1
  have e4 := hk1.cell 4
  have e5 := hk1.cell 5
  simp only [List.getElem?_toArray, List.getElem?_cons_zero, List.getElem?_cons_succ] at e0 e1 e4 e5
  clear hk1
  obtain ⟨R, hR⟩ : ∃ R, R = (stepE out ⟨xk, xc, xo, xp, xa, xb⟩).codes := ⟨_, rfl⟩
  rw [← hR]
  have HR := Lib.hid hR
  clear hR
  by_cases hk0 : xk = 0
  · have d0 : (xk == 0) = true := by simpa using hk0
    by_cases hz : xc = 0
    · have hs : stepE out ⟨xk, xc, xo, xp, xa, xb⟩ = .nil := by unfold stepE; simp only; rw [if_pos hk0, if_pos hz]
      have d1 : (xc == 0) = true := by simpa using hz
      obtain rfl : R = [] := by rw [HR.out, hs]; rfl
      clear hs hk0 hz e0 e1 e4 e5 HR
      go_enter Tryd.func24, Tryd.ntmps24
      go_wp2_with fail
      go_ret
      exact ⟨none, 0, 0, rfl, rfl, OwnT.nil _ _ _, hb1⟩
    · have hs : (stepE out ⟨xk, xc, xo, xp, xa, xb⟩).codes = [xc] := by unfold stepE; simp only; rw [if_pos hk0, if_neg hz]; simp only [Er.codes]; rw [if_neg hz]
      have d1 : (xc == 0) = false := by simpa using hz
      obtain rfl : R = [xc] := by rw [HR.out, hs]
      clear hs hk0 hz e0 e1 e4 e5 HR
      go_enter Tryd.func24, Tryd.ntmps24
      go_wp2_with fail
      go_ret
      have ho := OwnT.new 3 (w.alloc (.cells #[.int .i64 xk, .int .i64 xc, .string so, .string sp, .int .i64 xa, .int .i64 xb] 120)) w.heap.size (.int .i64 xc) hb1.size
      rw [World.size_alloc] at ho
      exact ⟨_, 1, 1, rfl, rfl, ho, hb1.trans ((boxed _ _).mono hb1.size)⟩
  · have d0 : (xk == 0) = false := by simpa using hk0
    have HK0 := Lib.hid hk0
    clear hk0
    go_enter Tryd.func24, Tryd.ntmps24
    go_wp2_with fail
    generalize (w.alloc (.cells #[.int .i64 xk, .int .i64 xc, .string so, .string sp, .int .i64 xa, .int .i64 xb] 120)) = w1 at hb1 e0 e1 e4 e5 ⊢
    go_region_held3 (fun w' => w'.cell? ⟨w.heap.size, 4, none⟩ = some (.int .i64 xa)) (go_keep)
      ((go_at_call 24; refine (HI.out.1 xa _ ⟨a1, a2⟩ ?_).mono ?_; exact hb1.drew; rintro e w2 ⟨A3, m3, c3, hm3, rfl, hown3, hb2⟩; have HM3 := Lib.hid hm3; clear hm3; have g4 := cell_below (w := w1.drew) e4 hb2))
    all_goals
      have g0 := cell_below (w := w1.drew) e0 hb2
      have g5 := cell_below (w := w1.drew) e5 hb2
      have hbw2 : Below w.heap.size w w2 := hb1.drew.trans (hb2.mono hb1.size)
      have hm3b : m3 ≤ 1000000 := by rw [HM3.out]; exact HI.out.2 xa
      clear e0 e1 e4 e5
      by_cases hk1' : xk = 1
      · have d1 : (xk == 1) = true := by simpa using hk1'
        have hs : (stepE out ⟨xk, xc, xo, xp, xa, xb⟩).codes = (atE out xa).codes := by unfold stepE; simp only; rw [if_neg HK0.out, if_pos hk1', wrapE_codes]
        have hRa : R = (atE out xa).codes := by rw [HR.out, hs]
        have HM := HM3.out
        rw [← hRa] at hown3 HM
        have HMM := Lib.hid HM
        clear hs hk1' HM hRa
        go_wp2_with fail
        go_ret
        exact ⟨A3, m3, c3, HMM.out, rfl, hown3.mono hb1.size, hbw2⟩
      · have d1 : (xk == 1) = false := by simpa using hk1'
        have hs : (stepE out ⟨xk, xc, xo, xp, xa, xb⟩).codes = (atE out xa).codes ++ (atE out xb).codes := by unfold stepE; simp only; rw [if_neg HK0.out, if_neg hk1', bothE_codes]
        obtain ⟨la, hla⟩ : ∃ la, la = (atE out xa).codes := ⟨_, rfl⟩
        have HM := HM3.out
        rw [← hla] at hown3 HM hs
        have HMM := Lib.hid HM
        have hla2 := HI.out.2 xb
        have hcb := fun w' hb' => HI.out.1 xb w' ⟨b1, b2⟩ hb'
        obtain ⟨lb, hlb⟩ : ∃ lb, lb = (atE out xb).codes := ⟨_, rfl⟩
        rw [← hlb] at hla2 hcb hs
        have HCB := Lib.hid hcb
        have hRab : R = la ++ lb := by rw [HR.out, hs]
        have HRab := Lib.hid hRab
        clear hs hk1' HM hla hlb hcb hRab
        have hq1 : (0 + m3) * 8 ≤ 140737488355328 := by omega
        have hq2 : 0 + m3 ≤ maxLen := by unfold maxLen; omega
        have hla3 : la.length ≤ 1000000 := by rw [← HMM.out]; exact hm3b
        have hvs3 := hown3.vs
        have hlt4 := World.block_lt_of_cell? w2 _ g5
        obtain ⟨g, hg⟩ : ∃ g, g = w2.heap.size := ⟨_, rfl⟩
        have hm0 : OwnT 3 ((w2.alloc (.cells #[] 3)).drew) w2.heap.size (some ⟨w2.heap.size, 0, none⟩) 0 0 [] := OwnT.made 3 w2 w2.heap.size (Nat.le_refl _)
        have hbz : Below w2.heap.size w2 ((w2.alloc (.cells #[] 3)).drew) := (boxed w2 _).drew
        have hvz : VS ((w2.alloc (.cells #[] 3)).drew) ((w2.alloc (.cells #[] 3)).drew).heap.size A3 m3 (la.map cv) := VS.up hvs3 hbz
        have hws := hbw2.size
        have HZ := Lib.hid (And.intro hm0 (And.intro hbz hvz))
        clear hm0 hbz hvz hg hvs3
        go_wp2_with fail
        go_region_held3 (fun w' => w'.cell? ⟨w.heap.size, 5, none⟩ = some (.int .i64 xb)) (go_keep)
          (first
            | (refine step_appv Tryd.underlying49 infoI rfl rfl (.tmp 38) (.tmp 39) (by rfl) w2.heap.size _ 0 0 [] (by rfl) HZ.out.1 _ A3 m3 c3 (la.map cv) (by rfl) HZ.out.2.2 (oneC _) hq1 hq2 HZ.out.2.1.size ?_
               intro A5 c5 w5 hown5 hg5 hob5
               have hb5 : Below w2.heap.size w2 w5 := below_row HZ.out.2.1 HZ.out.2.1.size HZ.out.1 (Nat.le_refl _) hg5
               have f5 := cell_below g5 hb5
               clear hob5)
            | (go_at_call 24; refine (HCB.out _ ?_).mono ?_; exact hbw2.trans (hb5.mono hws); rintro e w6 ⟨A6, m6, c6, hm6, rfl, hown6, hb6⟩; have HM6 := Lib.hid hm6; have hm6b : m6 ≤ 1000000 := by rw [hm6]; exact hla2
               have f6 := cell_below f5 hb6
               have hq3 : (m3 + m6) * 8 ≤ 140737488355328 := by omega
               have hq4 : m3 + m6 ≤ maxLen := by unfold maxLen; omega
               have hown5' : OwnT 3 w6 w2.heap.size A5 m3 c5 (la.map cv) := by have := OwnT.below (T := 3) hown5 hb6; rwa [Nat.zero_add, List.nil_append] at this
               clear hm6)
            | (refine step_appv Tryd.underlying49 infoI rfl rfl (.tmp 40) (.tmp 46) (by rfl) w2.heap.size A5 m3 c5 (la.map cv) (by rfl) hown5' _ A6 m6 c6 (lb.map cv) (by rfl) hown6.vs (oneC _) hq3 hq4 (Nat.le_trans hb5.size hb6.size) ?_
               intro A7 c7 w7 hown7 hg7 hob7
               have hb7 : Below w2.heap.size w2 w7 := below_row (hb5.trans (hb6.mono hb5.size)) (Nat.le_trans hb5.size hb6.size) hown5' (Nat.le_refl _) hg7
               have f7 := cell_below g5 hb7
               clear hob7))
        all_goals
          go_wp2_with fail
          go_ret
          refine ⟨A7, m3 + m6, c7, ?_, rfl, ?_, hbw2.trans (hb7.mono hws)⟩
          · rw [HRab.out, List.length_append, ← HMM.out, ← HM6.out]
          · rw [HRab.out, List.map_append]; exact OwnT.mono (T := 3) hown7 hws
theorem rc_all : ∀ n, n ≤ 11 → RC n
  | 0, _ => fun A m c l i w hm => absurd hm (by omega)
  | n + 1, hn => fun A m c l i w hm hi h hc hr hok => by
    by_cases ho : i < 0 ∨ (m : Int) ≤ i
    · exact codes_out w A m c l i hi (by omega) h ho
    · obtain ⟨k, rfl⟩ : ∃ k : Nat, i = (k : Int) := ⟨i.toNat, by omega⟩
      refine rcodes_step m (fun A' m' c' l' i' w' hm' => rc_all n (by omega) A' m' c' l' i' w' (by omega)) A c l k w (by omega) (by omega) h hc hr hok
theorem rcodes_any (A : Option Addr) (m c : Nat) (l : List Flt) (i : Int) (w : World) (hm : m ≤ 10) (hi : -9223372036854775808 ≤ i ∧ i ≤ 9223372036854775807) (h : FS w A m l) (hc : m ≤ c) (hr : ∀ x ∈ l, RngF x) (hok : ∀ x ∈ l, FOk x) :
    Calls Tryd.prog 24 #[.slice A m c, .int .i64 i] w (IntsRet w (atE (madeE l) i).codes) := rc_all 11 (by omega) A m c l i w (by omega) hi h hc hr hok
end Go.Proofs.YthhhiiagppckhaaDoor
