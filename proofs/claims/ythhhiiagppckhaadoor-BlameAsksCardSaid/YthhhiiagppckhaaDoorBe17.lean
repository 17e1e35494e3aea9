/- The document's steps of a fault; conditions: none beyond their hypotheses. -/
import Derived.Test.YthhhiiagppckhaaDoorBe16
namespace Go.Proofs.YthhhiiagppckhaaDoor
open Go.RowKit Go.Proofs.U Go.Proofs.Bp
set_option linter.unusedVariables false

def TextsRet (w : World) (l : List (List UInt8)) (e : Ending) (w' : World) : Prop := ∃ A n c, n = l.length ∧ e = .returned (.slice A n c) ∧ OwnT 9 w' w.heap.size A n c (l.map sv) ∧ Below w.heap.size w w'
def RS (n : Nat) : Prop := ∀ (A : Option Addr) (m c : Nat) (l : List Flt) (i : Int) (w : World), m < n → (-9223372036854775808 ≤ i ∧ i ≤ 9223372036854775807) → FS w A m l → m ≤ c → (∀ x ∈ l, RngF x) → (∀ x ∈ l, FOk x) → Calls Tryd.prog 25 #[.slice A m c, .int .i64 i] w (TextsRet w (atE (madeE l) i).steps)
theorem rsteps_out (w : World) (A : Option Addr) (m c : Nat) (l : List Flt) (i : Int) (hi : -9223372036854775808 ≤ i ∧ i ≤ 9223372036854775807) (hm : m ≤ 1000) (h : FS w A m l) (ho : i < 0 ∨ (m : Int) ≤ i) :
    Calls Tryd.prog 25 #[.slice A m c, .int .i64 i] w (TextsRet w (atE (madeE l) i).steps) := by
  rw [atE_out (by rw [h.1]; exact ho)]
  obtain ⟨h1, h2⟩ := hi
  clear h
  by_cases h0 : i < 0
  · have d0 : decide (i < 0) = true := decide_eq_true h0
    go_enter Tryd.func25, Tryd.ntmps25
    go_wp2_with fail
    go_ret
    exact ⟨none, 0, 0, rfl, rfl, OwnT.nil _ _ _, Below.refl _ _⟩
  · have d0 : decide (i < 0) = false := decide_eq_false h0
    have d1 : decide ((m : Int) ≤ i) = true := decide_eq_true (by omega)
    clear ho
    go_enter Tryd.func25, Tryd.ntmps25
    go_wp2_with fail
    go_ret
    exact ⟨none, 0, 0, rfl, rfl, OwnT.nil _ _ _, Below.refl _ _⟩
theorem asteps_len {t : Er} {n : Nat} (h : Bp.Good n t) (hn : n ≤ 10) : t.steps.length ≤ 1000000 := Nat.le_trans (steps_len t) (good_siz h hn)
theorem eok_codes {t : Er} (h : t = .nil ∨ t.ok) : t.codes.length = 0 ↔ t = .nil := by
  constructor
  · intro e
    rcases h with h | h
    · exact h
    · exact absurd (List.eq_nil_of_length_eq_zero e) (Er.ok_codes h)
  · rintro rfl; rfl

set_option maxRecDepth 100000 in
set_option maxHeartbeats 16000000 in
theorem rsteps_step (n : Nat) (ih : RS n) (A : Option Addr) (c : Nat) (l : List Flt) (k : Nat) (w : World) (hk : k < n) (hn : n ≤ 10) (h : FS w A n l) (hc : n ≤ c) (hr : ∀ x ∈ l, RngF x) (hok : ∀ x ∈ l, FOk x) :
    Calls Tryd.prog 25 #[.slice A n c, .int .i64 (k : Int)] w (TextsRet w (atE (madeE l) (k : Int)).steps) := by
  obtain ⟨x, hx⟩ : ∃ x, l[k]? = some x := ⟨l[k]'(by rw [h.1]; exact hk), by simp⟩
  have hcod := rcodes_any A n c l (k : Int) w hn ⟨by omega, by omega⟩ h hc hr hok
  have hgk := (good_at l hok (k : Int)).ok
  rw [atE_in hx] at hcod hgk ⊢
  obtain ⟨b, off, rfl, hlt, c0, c1, c2, c3, c4, c5⟩ := h.at_ hx
  have hfs := h
  obtain ⟨⟨k1, k2⟩, ⟨r1, r2⟩, ⟨a1, a2⟩, ⟨b1, b2⟩, r3, r4⟩ := hr x (List.mem_of_getElem? hx)
  have hft := h.take (k := k) (by omega)
  have hrt : ∀ y ∈ l.take k, RngF y := fun y hy => hr y (List.mem_of_mem_take hy)
  have hot : ∀ y ∈ l.take k, FOk y := fun y hy => hok y (List.mem_of_mem_take hy)
  have htl : (l.take k).length = k := by rw [List.length_take, h.1]; omega
  have hop := (hok x (List.mem_of_getElem? hx)).1
  obtain ⟨xk, xc, xo, xp, xa, xb⟩ := x
  simp only at c0 c1 c2 c3 c4 c5 k1 k2 r1 r2 a1 a2 b1 b2 r3 r4 hop
  have hih : ∀ (i : Int) w', (-9223372036854775808 ≤ i ∧ i ≤ 9223372036854775807) → Below w.heap.size w w' → Calls Tryd.prog 25 #[.slice (some ⟨b, off, none⟩) k c, .int .i64 i] w' (TextsRet w' (atE (madeE (l.take k)) i).steps) := fun i w' hi hb => ih _ k c (l.take k) i w' hk hi (hft.below hb) (by omega) hrt hot
  have hla : ∀ i, (atE (madeE (l.take k)) i).steps.length ≤ 1000000 := fun i => by
    have := good_at (l.take k) hot i
    rw [htl] at this
    exact asteps_len this (by omega)
  obtain ⟨out, hout⟩ : ∃ out, out = madeE (l.take k) := ⟨_, rfl⟩
  rw [← hout] at hih hla hcod hgk ⊢
  have HI := Lib.hid (And.intro hih hla)
  obtain ⟨so, hso⟩ : ∃ so, so = strOf xo := ⟨_, rfl⟩
  obtain ⟨sp, hsp⟩ : ∃ sp, sp = strOf xp := ⟨_, rfl⟩
  obtain ⟨s3, hs3⟩ : ∃ s3, s3 = strOf (xo ++ [32]) := ⟨_, rfl⟩
  obtain ⟨s4, hs4⟩ : ∃ s4, s4 = strOf (xo ++ 32 :: xp) := ⟨_, rfl⟩
  have x1 : ∀ w', (Op.stringOp .add so ⟨#[32]⟩).run Tryd.prog w' = .ok (.string s3) w' := fun w' => by
    rw [hso, hs3, run_string_add_sum w' _ _ (by rw [strOf_sz]; show xo.length + 1 ≤ _; omega)]
    exact congrArg (fun z => Result.ok (Value.string z) w') (strOf_app xo [32])
  have x2 : ∀ w', (Op.stringOp .add s3 sp).run Tryd.prog w' = .ok (.string s4) w' := fun w' => by
    rw [hsp, hs3, hs4, run_string_add_sum w' _ _ (by rw [strOf_sz, strOf_sz]; simp; omega), strOf_app]
    simp
  rw [← hso] at c2
  rw [← hsp] at c3
  have HS4 := Lib.hid hs4
  have hkk : k ≤ c := by omega
  have d9 : decide ((k : Int) < 0) = false := decide_eq_false (by omega)
  have d8 : decide ((n : Int) ≤ (k : Int)) = false := decide_eq_false (by omega)
  have i1 : (0 : Int) ≤ (k : Int) := by omega
  have i2 : (k : Int) ≤ (c : Int) := by omega
  obtain ⟨R, hR⟩ : ∃ R, R = (stepE out ⟨xk, xc, xo, xp, xa, xb⟩).steps := ⟨_, rfl⟩
  obtain ⟨C, hC⟩ : ∃ C, C = (stepE out ⟨xk, xc, xo, xp, xa, xb⟩).codes := ⟨_, rfl⟩
  rw [← hR]
  rw [← hC] at hcod
  have HR := Lib.hid (And.intro hR hC)
  have hgz := eok_codes hgk
  have HG := Lib.hid hgz
  have HCOD := Lib.hid hcod
  clear hR hC hih hla hx hft hrt hot htl hout hso hsp hs3 hs4 r3 r4 hr hok h ih hc hop hgz hcod hgk hfs
  go_enter Tryd.func25, Tryd.ntmps25
  go_wp2_with fail
  refine HCOD.out.mono ?_
  rintro e w0 ⟨A0, m0, cc0, hm0, rfl, hown0, hb0⟩
  replace c0 := cell_below c0 hb0
  replace c1 := cell_below c1 hb0
  replace c2 := cell_below c2 hb0
  replace c3 := cell_below c3 hb0
  replace c4 := cell_below c4 hb0
  replace c5 := cell_below c5 hb0
  have HM0 := Lib.hid hm0
  clear hm0 hown0
  by_cases hz0 : m0 = 0
  · have hR2 : R = [] := by
      rw [HR.out.1, HG.out.1 (by rw [← HR.out.2, ← HM0.out]; exact hz0)]; rfl
    have HR2 := Lib.hid hR2
    have dz : ((m0 : Int) == 0) = true := by rw [hz0]; rfl
    clear hR2 hz0
    go_wp2_with fail
    go_ret
    exact ⟨none, 0, 0, by rw [HR2.out]; rfl, rfl, by rw [HR2.out]; exact OwnT.nil _ _ _, hb0⟩
  have hnn : stepE out ⟨xk, xc, xo, xp, xa, xb⟩ ≠ .nil := fun e => hz0 (by rw [HM0.out, HR.out.2, e]; rfl)
  have dz : ((m0 : Int) == 0) = false := by simp; omega
  have HNN := Lib.hid hnn
  clear hz0 hnn
  have hb1 := boxed w0 (.cells #[.int .i64 xk, .int .i64 xc, .string so, .string sp, .int .i64 xa, .int .i64 xb] 120)
  have hk1 : Blk (w0.alloc (.cells #[.int .i64 xk, .int .i64 xc, .string so, .string sp, .int .i64 xa, .int .i64 xb] 120)) w0.heap.size 120 #[.int .i64 xk, .int .i64 xc, .string so, .string sp, .int .i64 xa, .int .i64 xb] := Blk.new _ _ _
  have e0 := hk1.cell 0
  have e1 := hk1.cell 1
  have e2 := hk1.cell 2
  have e3 := hk1.cell 3
  have e4 := hk1.cell 4
  have e5 := hk1.cell 5
  simp only [List.getElem?_toArray, List.getElem?_cons_zero, List.getElem?_cons_succ] at e0 e1 e2 e3 e4 e5
  clear hk1
  by_cases hk0 : xk = 0
  · have d0 : (xk == 0) = true := by simpa using hk0
    have hR2 : R = [xo ++ 32 :: xp] := by
      have hn := HNN.out
      rw [HR.out.1]
      unfold stepE at hn ⊢
      simp only at hn ⊢
      rw [if_pos hk0] at hn ⊢
      by_cases hz : xc = 0
      · rw [if_pos hz] at hn; exact absurd rfl hn
      · rw [if_neg hz]; rfl
    have HR2 := Lib.hid hR2
    clear hk0 hR2
    go_wp2_with fail
    go_ret
    have ho := OwnT.new 9 (w0.alloc (.cells #[.int .i64 xk, .int .i64 xc, .string so, .string sp, .int .i64 xa, .int .i64 xb] 120)) w.heap.size (.string s4) (Nat.le_trans hb0.size hb1.size)
    rw [World.size_alloc] at ho
    exact ⟨_, 1, 1, by rw [HR2.out]; rfl, rfl, by rw [HR2.out, List.map_cons, List.map_nil, show sv (xo ++ 32 :: xp) = .string s4 by rw [HS4.out]; rfl]; exact ho, hb0.trans ((hb1.trans ((boxed _ _).mono hb1.size)).mono hb0.size)⟩
  · have d0 : (xk == 0) = false := by simpa using hk0
    have HK0 := Lib.hid hk0
    clear hk0
    go_wp2_with fail
    generalize (w0.alloc (.cells #[.int .i64 xk, .int .i64 xc, .string so, .string sp, .int .i64 xa, .int .i64 xb] 120)) = w1 at hb1 e0 e1 e2 e3 e4 e5 ⊢
    have hb01 := hb0.trans (hb1.mono hb0.size)
    go_region_held3 (fun w' => w'.cell? ⟨w0.heap.size, 4, none⟩ = some (.int .i64 xa)) (go_keep)
      ((go_at_call 25; refine (HI.out.1 xa _ ⟨a1, a2⟩ ?_).mono ?_; exact hb01.drew; rintro e w2 ⟨A3, m3, c3, hm3, rfl, hown3, hb2⟩; have HM3 := Lib.hid hm3; clear hm3; have g4 := cell_below (w := w1.drew) e4 hb2))
    all_goals
      have g0 := cell_below (w := w1.drew) e0 hb2
      have g2 := cell_below (w := w1.drew) e2 hb2
      have g3 := cell_below (w := w1.drew) e3 hb2
      have g5 := cell_below (w := w1.drew) e5 hb2
      have hbw2 : Below w.heap.size w w2 := hb01.drew.trans (hb2.mono hb01.size)
      have hm3b : m3 ≤ 1000000 := by rw [HM3.out]; exact HI.out.2 xa
      clear e0 e1 e2 e3 e4 e5
      by_cases hk1' : xk = 1
      · have d1 : (xk == 1) = true := by simpa using hk1'
        have hRa : R = (xo ++ 32 :: xp) :: (atE out xa).steps := by
          have hn := HNN.out
          rw [HR.out.1]
          unfold stepE at hn ⊢
          simp only at hn ⊢
          rw [if_neg HK0.out, if_pos hk1'] at hn ⊢
          cases e : atE out xa with
          | nil => rw [e] at hn; exact absurd rfl hn
          | _ => rfl
        have HM := HM3.out
        obtain ⟨la, hla⟩ : ∃ la, la = (atE out xa).steps := ⟨_, rfl⟩
        rw [← hla] at hown3 HM hRa
        have HMM := Lib.hid HM
        have HRa := Lib.hid hRa
        clear hk1' HM hRa hla
        have hb4 := boxed w2 (.cells #[.string s4] 9)
        have hvs3 := VS.up hown3.vs hb4
        have ho4 := OwnT.new 9 w2 w.heap.size (.string s4) hbw2.size
        have hbw4 := hbw2.trans (hb4.mono hbw2.size)
        have hq1 : (1 + m3) * 16 ≤ 140737488355328 := by omega
        have hq2 : 1 + m3 ≤ maxLen := by unfold maxLen; omega
        go_wp2_with (at_builtin; refine wpList_appv Tryd.underlying51 infoStr rfl rfl (.tmp 51) (.tmp 52) rfl w.heap.size _ 1 1 [.string s4] rfl ho4 _ _ m3 c3 _ rfl hvs3 (oneS _) hq1 hq2 hbw4.size ?_; intro A5 c5 w5 hown5 hg5 _)
        go_ret
        refine ⟨A5, 1 + m3, c5, ?_, rfl, ?_, below_row hbw4 hbw4.size ho4 (Nat.le_refl _) hg5⟩
        · rw [HRa.out, List.length_cons, ← HMM.out]; omega
        · rw [HRa.out, List.map_cons, show sv (xo ++ 32 :: xp) = .string s4 by rw [HS4.out]; rfl]; exact hown5
      · have d1 : (xk == 1) = false := by simpa using hk1'
        have hs : R = (atE out xa).steps ++ (atE out xb).steps := by rw [HR.out.1]; unfold stepE; simp only; rw [if_neg HK0.out, if_neg hk1', bothE_steps]
        obtain ⟨la, hla⟩ : ∃ la, la = (atE out xa).steps := ⟨_, rfl⟩
        have HM := HM3.out
        rw [← hla] at hown3 HM hs
        have HMM := Lib.hid HM
        have hla2 := HI.out.2 xb
        have hcb := fun w' hb' => HI.out.1 xb w' ⟨b1, b2⟩ hb'
        obtain ⟨lb, hlb⟩ : ∃ lb, lb = (atE out xb).steps := ⟨_, rfl⟩
        rw [← hlb] at hla2 hcb hs
        have HCB := Lib.hid hcb
        have HRab := Lib.hid hs
        clear hs hk1' HM hla hlb hcb
        have hq1 : (0 + m3) * 16 ≤ 140737488355328 := by omega
        have hq2 : 0 + m3 ≤ maxLen := by unfold maxLen; omega
        have hla3 : la.length ≤ 1000000 := by rw [← HMM.out]; exact hm3b
        have hvs3 := hown3.vs
        have hm0 : OwnT 9 ((w2.alloc (.cells #[] 9)).drew) w2.heap.size (some ⟨w2.heap.size, 0, none⟩) 0 0 [] := OwnT.made 9 w2 w2.heap.size (Nat.le_refl _)
        have hbz : Below w2.heap.size w2 ((w2.alloc (.cells #[] 9)).drew) := (boxed w2 _).drew
        have hvz : VS ((w2.alloc (.cells #[] 9)).drew) ((w2.alloc (.cells #[] 9)).drew).heap.size A3 m3 (la.map sv) := VS.up hvs3 hbz
        have hws := hbw2.size
        have HZ := Lib.hid (And.intro hm0 (And.intro hbz hvz))
        clear hm0 hbz hvz hvs3
        go_wp2_with fail
        go_region_held3 (fun w' => w'.cell? ⟨w0.heap.size, 5, none⟩ = some (.int .i64 xb)) (go_keep)
          (first
            | (refine step_appv Tryd.underlying51 infoStr rfl rfl (.tmp 54) (.tmp 55) (by rfl) w2.heap.size _ 0 0 [] (by rfl) HZ.out.1 _ A3 m3 c3 (la.map sv) (by rfl) HZ.out.2.2 (oneS _) hq1 hq2 HZ.out.2.1.size ?_
               intro A5 c5 w5 hown5 hg5 hob5
               have hb5 : Below w2.heap.size w2 w5 := below_row HZ.out.2.1 HZ.out.2.1.size HZ.out.1 (Nat.le_refl _) hg5
               have f5 := cell_below g5 hb5
               clear hob5)
            | (go_at_call 25; refine (HCB.out _ ?_).mono ?_; exact hbw2.trans (hb5.mono hws); rintro e w6 ⟨A6, m6, c6, hm6, rfl, hown6, hb6⟩; have HM6 := Lib.hid hm6; have hm6b : m6 ≤ 1000000 := by rw [hm6]; exact hla2
               have f6 := cell_below f5 hb6
               have hq3 : (m3 + m6) * 16 ≤ 140737488355328 := by omega
               have hq4 : m3 + m6 ≤ maxLen := by unfold maxLen; omega
               have hown5' : OwnT 9 w6 w2.heap.size A5 m3 c5 (la.map sv) := by have := OwnT.below (T := 9) hown5 hb6; rwa [Nat.zero_add, List.nil_append] at this
               clear hm6)
            | (refine step_appv Tryd.underlying51 infoStr rfl rfl (.tmp 56) (.tmp 62) (by rfl) w2.heap.size A5 m3 c5 (la.map sv) (by rfl) hown5' _ A6 m6 c6 (lb.map sv) (by rfl) hown6.vs (oneS _) hq3 hq4 (Nat.le_trans hb5.size hb6.size) ?_
               intro A7 c7 w7 hown7 hg7 hob7
               have hb7 : Below w2.heap.size w2 w7 := below_row (hb5.trans (hb6.mono hb5.size)) (Nat.le_trans hb5.size hb6.size) hown5' (Nat.le_refl _) hg7
               have f7 := cell_below g5 hb7
               clear hob7))
        all_goals
          go_wp2_with fail
          go_ret
          refine ⟨A7, m3 + m6, c7, ?_, rfl, ?_, hbw2.trans (hb7.mono hws)⟩
          · rw [HRab.out, List.length_append, ← HMM.out, ← HM6.out]
          · rw [HRab.out, List.map_append]; exact OwnT.mono (T := 9) hown7 hws
theorem rs_all : ∀ n, n ≤ 11 → RS n
  | 0, _ => fun A m c l i w hm => absurd hm (by omega)
  | n + 1, hn => fun A m c l i w hm hi h hc hr hok => by
    by_cases ho : i < 0 ∨ (m : Int) ≤ i
    · exact rsteps_out w A m c l i hi (by omega) h ho
    · obtain ⟨k, rfl⟩ : ∃ k : Nat, i = (k : Int) := ⟨i.toNat, by omega⟩
      refine rsteps_step m (fun A' m' c' l' i' w' hm' => rs_all n (by omega) A' m' c' l' i' w' (by omega)) A c l k w (by omega) (by omega) h hc hr hok
theorem rsteps_any (A : Option Addr) (m c : Nat) (l : List Flt) (i : Int) (w : World) (hm : m ≤ 10) (hi : -9223372036854775808 ≤ i ∧ i ≤ 9223372036854775807) (h : FS w A m l) (hc : m ≤ c) (hr : ∀ x ∈ l, RngF x) (hok : ∀ x ∈ l, FOk x) :
    Calls Tryd.prog 25 #[.slice A m c, .int .i64 i] w (TextsRet w (atE (madeE l) i).steps) := rs_all 11 (by omega) A m c l i w (by omega) hi h hc hr hok
end Go.Proofs.YthhhiiagppckhaaDoor
