/- The walk of msg.Read; conditions: none beyond its hypotheses. Small facts on letters and strings; conditions: none beyond their hypotheses. -/
import Derived.Test.YthhhiiagppckhaaGreatDoorMgMs5b
set_option linter.unusedSimpArgs false
set_option linter.unusedVariables false
section
namespace Go.Proofs.YthhhiiagppckhaaGreatDoor
open Go.RowKit Go.Proofs.U
set_option linter.unusedVariables false

/-- a message behind a value -/
def MsgV (w : World) (B0 : Nat) (m : Ms.Msg) (v : Value) : Prop :=
  ∃ A c A2 c2, v = .agg (mCells m A c A2 c2) ∧ Dat w B0 A m.data ∧ m.data.length ≤ c ∧ RwS w B0 A2 m.rows ∧ m.rows.length ≤ c2
def ReadRet (w : World) (B0 : Nat) (r : Ms.Msg × Nat) (e : Ending) (w' : World) : Prop :=
  ∃ v, e = .returned (.tuple #[v, .int .i64 (r.2 : Int)]) ∧ MsgV w' B0 r.1 v ∧ Below w.heap.size w w'
theorem MsgW.zero {w : World} {gm B0 : Nat} (h : Blk w gm 27 (mCells Ms.zero none 0 none 0)) (hB : B0 ≤ gm) : MsgW w B0 gm Ms.zero := ⟨none, 0, none, 0, h, Dat.nil _ _ _, Nat.le_refl _, RwS.nil _ _ _, Nat.le_refl _, hB⟩
theorem Ms.MAX_lt : Ms.MAX = 18446744073709551615 := rfl
theorem readP_all {b b2 b6 : List UInt8} {v f2 f6 M : Nat} {ms : Ms.Msg} (h1 : (v, b2, f2) = Gr.enum M b 0) (hM : Ms.MAX = M) (hne : Ms.hasN v ≠ []) (h2 : (ms, b6, f6) = Ms.steps (Ms.hasN v) ({Ms.zero with kind := ((v : Nat) : Int)}, b2, f2)) :
    Ms.readP b = if Ms.close b6 f6 ≠ 0 then (Ms.zero, Ms.close b6 f6) else (ms, 0) := by
  unfold Ms.readP
  rw [hM, ← h1]
  simp only
  rw [if_neg hne, ← h2]
theorem readP_no {b b2 : List UInt8} {v f2 M : Nat} (h1 : (v, b2, f2) = Gr.enum M b 0) (hM : Ms.MAX = M) (hne : Ms.hasN v = []) : Ms.readP b = (Ms.zero, Ms.close (Gr.efail 2 b2 f2).1 (Gr.efail 2 b2 f2).2) := by
  unfold Ms.readP
  rw [hM, ← h1]
  simp only
  rw [if_pos hne]
theorem hasN_none (v : Nat) (h : ¬ (1 ≤ v ∧ v ≤ 16)) : Ms.hasN v = [] := by
  by_cases h0 : v = 0
  · subst h0; rfl
  · exact Ms.hasN_big v (by omega)
theorem infoM16 : (Tryz.prog.info? 27).map (·.size) = some 16 := by kernel_rfl
theorem mCells_one (m : Ms.Msg) (A : Option Addr) (c : Nat) (A2 : Option Addr) (c2 : Nat) : (mCells m A c A2 c2).all (·.oneCell') = true := by simp [mCells, Value.oneCell']
theorem MsgW.lt {w : World} {gm B0 : Nat} {m : Ms.Msg} (h : MsgW w B0 gm m) : gm < w.heap.size := by obtain ⟨_, _, _, _, hk, _⟩ := h; exact hk.lt
theorem MsgW.cell0 {w : World} {gm B0 : Nat} {m : Ms.Msg} (h : MsgW w B0 gm m) : w.cell? ⟨gm, 0, none⟩ = some (.int .i64 m.kind) := by obtain ⟨_, _, _, _, hk, _⟩ := h; exact hk.cell 0
theorem MsgW.free {w : World} {gm B0 : Nat} {m : Ms.Msg} (h : MsgW w B0 gm m) (i : Nat) : w.frozen? ⟨gm, i, none⟩ = false := by obtain ⟨_, _, _, _, hk, _⟩ := h; exact hk.frozen i
set_option maxRecDepth 100000 in
set_option maxHeartbeats 4000000 in
theorem mRead0_any (A : Option Addr) (n c B0 : Nat) (b : List UInt8) (w : World) (hb : BS w B0 A n b) (hB : B0 ≤ w.heap.size) (hc : n ≤ c) (hn : n ≤ 140737488355328) :
    Calls Tryz.prog 20 #[.slice A n c] w (ReadRet w 0 (Ms.readP b)) := by
  have hl := hb.1
  obtain ⟨R, hR⟩ : ∃ R, R = Ms.readP b := ⟨_, rfl⟩
  rw [← hR]
  have HR := Lib.hid (And.intro hR hl)
  clear hR hl
  go_enter Tryz.func20, Tryz.ntmps20
  go_wp2_with fail
  have hal : ∀ o, Below w.heap.size w (w.alloc o) := fun o => alloc_b w o
  refine (eopen_any A n c B0 b _ (hb.below ((hal _).mono hB)) (Nat.le_trans hB (hal _).size) hc).mono ?_
  rintro e w1 ⟨g, rfl, hg, he, hb1⟩
  have hr1 : Blk w1 w.heap.size 27 (mCells Ms.zero none 0 none 0) := (Blk.new w _ _).stay hb1
  have hbw1 : Below w.heap.size w w1 := (hal _).trans (hb1.mono (hal _).size)
  have hg0 : w.heap.size < g := by simp at hg; omega
  have hbl : b.length ≤ 140737488355328 := by rw [HR.out.2]; exact hn
  have hN := enum_any g B0 b 0 18446744073709551615 (by decide) (by omega) w1 he
  have hNl := Gr.enum_len 18446744073709551615 b 0
  have hNm := Gr.enum_le 18446744073709551615 b 0
  obtain ⟨E, hE⟩ : ∃ E, E = Gr.enum 18446744073709551615 b 0 := ⟨_, rfl⟩
  rw [← hE] at hN hNl hNm
  obtain ⟨v, b2, f2⟩ := E
  have HE := Lib.hid hE
  clear hE hb1 hb hal hg
  simp only at hNl hNm
  go_wp2_with fail
  refine hN.mono ?_
  rintro e w2 ⟨rfl, he2, hg2⟩
  simp only at he2 ⊢
  have hr2 := hr1.grown hg2 (by intro e; injection e with e; omega)
  have hbw2 := hbw1.grown hg2 hbw1.size (fun k hk => by injection hk; omega)
  clear hN he hr1 hg2
  have hm2 : ∀ w', Blk w' w2.heap.size 27 (mCells Ms.zero none 0 none 0) → MsgW w' B0 w2.heap.size Ms.zero := fun w' h => MsgW.zero h (by have := hbw2.size; omega)
  have hgl := he2.lt
  by_cases hv : 1 ≤ v ∧ v ≤ 16
  · obtain ⟨k, rfl⟩ : ∃ k, v = k + 1 := ⟨v - 1, by omega⟩
    have i1 : ((k : Int) + 1) < 99 := by omega
    go_wp2_with fail
    refine (mkind_in k (by omega) _).mono ?_
    rintro e w3 ⟨rfl, hb3⟩
    have hk3 : Blk w3 w2.heap.size 27 (mCells Ms.zero none 0 none 0) := (Blk.new w2 _ _).stay hb3
    have he3 := (he2.below (alloc_b w2 _)).below hb3
    have hr3 := (hr2.alloc _).stay hb3
    rw [hasN_ne k (by omega)]
    have hbw3 : Below w.heap.size w w3 := (hbw2.trans ((alloc_b w2 _).mono hbw2.size)).trans (hb3.mono (Nat.le_trans hbw2.size (alloc_b w2 _).size))
    have hz3 := hm2 _ hk3
    have hn3 : nameN (k + 1) = nameN (k + 1) := rfl
    obtain ⟨P, hP⟩ : ∃ P, P = Ms.hasN (k + 1) := ⟨_, rfl⟩
    obtain ⟨NM, hNM⟩ : ∃ NM, NM = nameN (k + 1) := ⟨_, rfl⟩
    rw [← hP, ← hNM]
    have HP := Lib.hid hP
    clear hP hNM hn3 hb3 hk3
    -- the row behind it, and the kind
    have he4 := he3.below (alloc_b w3 (.cells #[.string (strOf NM), .string (strOf P)] 86))
    have hz4 := hz3.below (alloc_b w3 (.cells #[.string (strOf NM), .string (strOf P)] 86))
    have hr4 := hr3.alloc (.cells #[.string (strOf NM), .string (strOf P)] 86)
    have hp4 := Blk.new w3 86 #[.string (strOf NM), .string (strOf P)]
    have hbw4 : Below w.heap.size w (w3.alloc (.cells #[.string (strOf NM), .string (strOf P)] 86)) := hbw3.trans ((alloc_b _ _).mono hbw3.size)
    obtain ⟨hz5, he5, hg5⟩ := hz4.put (m' := {Ms.zero with kind := (k : Int) + 1}) he4 (by decide) 0 (.int .i64 ((k : Int) + 1)) rfl rfl rfl (fun _ _ _ _ => rfl)
    have hp5 := hp4.grown hg5 (by intro e; injection e with e; have := (hz3.lt); omega)
    have x0 := hz4.cell0
    have y0 := hz4.free 0
    have x1 := hp5.cell 1
    simp only [List.getElem?_toArray, List.getElem?_cons_succ, List.getElem?_cons_zero] at x1
    go_wp2_with fail
    have hz3l := hz3.lt
    have hwl := hbw2.size
    have hbw5 : Below w.heap.size w ((w3.alloc (.cells #[.string (strOf NM), .string (strOf P)] 86)).setCell ⟨w2.heap.size, 0, none⟩ (.int .i64 ((k : Int) + 1))) := hbw4.grown hg5 hbw4.size (fun j hj => by injection hj; omega)
    have hr5 := hr4.grown hg5 (by intro e; injection e with e; omega)
    generalize ((w3.alloc (.cells #[.string (strOf NM), .string (strOf P)] 86)).setCell ⟨w2.heap.size, 0, none⟩ (.int .i64 ((k : Int) + 1))) = w5 at hz5 he5 hbw5 hr5 ⊢
    clear x0 y0 x1 hp5 hg5 hz4 he4 hr4 hp4 hz3 he3 hr3 hm2
    generalize hgm : w2.heap.size = gm at hz5 hwl hgl ⊢
    have hrd := mread_any g gm B0 b2 f2 _ P (by rw [HP.out]; exact (Ms.hasN_alpha _).1) (by omega) w5 he5 hz5
    obtain ⟨S, hS⟩ : ∃ S, S = Ms.steps P ({Ms.zero with kind := (k : Int) + 1}, b2, f2) := ⟨_, rfl⟩
    rw [← hS] at hrd
    obtain ⟨ms, b6, f6⟩ := S
    have HS := Lib.hid hS
    clear hS
    refine hrd.mono ?_
    rintro e w6 ⟨rfl, he6, hz6, h26⟩
    simp only at he6 hz6
    have hr6 : Blk w6 w.heap.size 27 (mCells Ms.zero none 0 none 0) := (h26.block _ hr5.lt (by omega) (by omega)).trans hr5
    have hbw6 := h26.below hbw5 hbw5.size (by omega) hwl
    clear hrd he5 hz5 h26 hbw5 hr5 hgm
    go_wp2_with fail
    refine (eclose_any g B0 b6 f6 w6 he6).mono ?_
    rintro e w7 ⟨rfl, rfl⟩
    obtain ⟨CL, hCL⟩ : ∃ CL, CL = Ms.close b6 f6 := ⟨_, rfl⟩
    rw [← hCL]
    have HC := Lib.hid hCL
    clear hCL
    by_cases h0 : CL = 0
    · subst h0
      obtain ⟨A1, c1, A2, c2, q1, q2, q3, q4, q5, q6⟩ := hz6
      have HQ := Lib.hid q1
      go_wp2_with (first
        | (refine wpList_load_blk rfl 27 (.tmp 6) rfl gm rfl 27 _ _ HQ.out Tryz.underlying27 rfl infoM16 ?_)
        | (refine wpList_store_blk rfl 27 (.tmp 2) (.tmp 39) rfl w.heap.size _ rfl rfl _ _ hr6 infoM16 rfl (mCells_one _ _ _ _ _) ?_; intro w8 hk8 hg8))
      refine bodyPost_ret (results_row2 Tryz.results20 _ _ w.heap.size _ _ _ rfl hk8 Tryz.underlying27 rfl infoM16) rfl ?_
      have hK := kept_grown (B0 := 0) hg8 (Nat.zero_le _) hr6 (by decide) (by decide)
      have hS' : (ms, b6, f6) = Ms.steps (Ms.hasN (k + 1)) ({Ms.zero with kind := ((k + 1 : Nat) : Int)}, b2, f2) := by rw [← HP.out, Int.natCast_succ]; exact HS.out
      have hE := HR.out.1.trans (readP_all HE.out (Ms.MAX_lt) (by have := hasN_ne k (by omega); simpa using this) hS')
      rw [← HC.out, if_neg (by simp)] at hE
      subst hE
      exact ⟨_, rfl, ⟨A1, c1, A2, c2, rfl, q2.kept hK, q3, q4.kept hK, q5⟩, hbw6.grown hg8 hbw6.size (fun j hj => by injection hj; omega)⟩
    · have hff : ((CL : Int) == 0) = false := by rw [beq_eq_false_iff_ne]; omega
      have hff2 : ((CL : Int) != 0) = true := by rw [bne_iff_ne]; omega
      go_wp2_with (refine wpList_store_blk rfl 27 (.tmp 2) (.tmp 37) rfl w.heap.size (mCells Ms.zero none 0 none 0) rfl rfl _ _ hr6 infoM16 rfl (mCells_one _ _ _ _ _) ?_; intro w8 hk8 hg8)
      refine bodyPost_ret (results_row2 Tryz.results20 _ _ w.heap.size _ _ _ rfl hk8 Tryz.underlying27 rfl infoM16) rfl ?_
      have hS' : (ms, b6, f6) = Ms.steps (Ms.hasN (k + 1)) ({Ms.zero with kind := ((k + 1 : Nat) : Int)}, b2, f2) := by rw [← HP.out, Int.natCast_succ]; exact HS.out
      have hE := HR.out.1.trans (readP_all HE.out (Ms.MAX_lt) (by have := hasN_ne k (by omega); simpa using this) hS')
      rw [← HC.out, if_pos (by simpa using h0)] at hE
      subst hE
      exact ⟨_, rfl, ⟨none, 0, none, 0, rfl, Dat.nil _ _ _, Nat.le_refl _, RwS.nil _ _ _, Nat.le_refl _⟩, hbw6.grown hg8 hbw6.size (fun j hj => by injection hj; omega)⟩
  · by_cases h9 : v ≤ 99
    · have i9 : (v : Int) ≤ 99 := by omega
      go_wp2_with fail
      refine (mkind_no (v : Int) (by omega) _).mono ?_
      rintro e w3 ⟨rfl, hb3⟩
      have hk3 : Blk w3 w2.heap.size 27 (mCells Ms.zero none 0 none 0) := (Blk.new w2 _ _).stay hb3
      have he3 := (he2.below (alloc_b w2 _)).below hb3
      have hr3 := (hr2.alloc _).stay hb3
      rw [show decide (Ms.hasN 0 ≠ []) = false from rfl, show nameN 0 = [] from rfl, show Ms.hasN 0 = [] from rfl]
      have hbw3 : Below w.heap.size w w3 := (hbw2.trans ((alloc_b w2 _).mono hbw2.size)).trans (hb3.mono (Nat.le_trans hbw2.size (alloc_b w2 _).size))
      have hz3 := hm2 _ hk3
      clear hb3 hk3
      have he4 := he3.below (alloc_b w3 (.cells #[.string (strOf []), .string (strOf [])] 86))
      have hz4 := hz3.below (alloc_b w3 (.cells #[.string (strOf []), .string (strOf [])] 86))
      have hr4 := hr3.alloc (.cells #[.string (strOf []), .string (strOf [])] 86)
      have hp4 := Blk.new w3 86 #[.string (strOf []), .string (strOf [])]
      have hbw4 : Below w.heap.size w (w3.alloc (.cells #[.string (strOf []), .string (strOf [])] 86)) := hbw3.trans ((alloc_b _ _).mono hbw3.size)
      have hz3l := hz3.lt
      have hwl := hbw2.size
      go_wp2_with fail
      generalize (w3.alloc (.cells #[.string (strOf []), .string (strOf [])] 86)) = wq at he4 hz4 hr4 hp4 hbw4 ⊢
      refine (efail_any g B0 b2 f2 2 (by decide) wq he4).mono ?_
      rintro e w4 ⟨rfl, heq, hgq⟩
      have hzq := hz4.eye he4 hgq (by decide) (by decide) (by decide)
      have hrq := hr4.grown hgq (by intro e; injection e with e; omega)
      have hbwq := hbw4.grown hgq hbw4.size (fun j hj => by injection hj; omega)
      have hpq := hp4.grown hgq (by intro e; injection e with e; omega)
      obtain ⟨F, hF⟩ : ∃ F, F = Gr.efail 2 b2 f2 := ⟨_, rfl⟩
      rw [← hF] at heq
      have HF := Lib.hid hF
      clear hF he4 hz4 hr4 hp4 hbw4 hgq hz3 he3 hr3
      obtain ⟨b5, f5⟩ := F
      simp only at heq
      obtain ⟨hz5, he5, hg5⟩ := hzq.put (m' := {Ms.zero with kind := (v : Int)}) heq (by decide) 0 (.int .i64 (v : Int)) rfl rfl rfl (fun _ _ _ _ => rfl)
      have hp5 := hpq.grown hg5 (by intro e; injection e with e; omega)
      have x0 := hzq.cell0
      have y0 := hzq.free 0
      have x1 := hp5.cell 1
      simp only [List.getElem?_toArray, List.getElem?_cons_succ, List.getElem?_cons_zero] at x1
      go_wp2_with fail
      have hbw5 := hbwq.grown hg5 hbwq.size (fun j hj => by injection hj; omega)
      have hr5 := hrq.grown hg5 (by intro e; injection e with e; omega)
      generalize (w4.setCell ⟨w2.heap.size, 0, none⟩ (.int .i64 (v : Int))) = w5 at hz5 he5 hbw5 hr5 ⊢
      clear x0 y0 x1 hp5 hg5 hzq heq hrq hpq hm2
      generalize hgm : w2.heap.size = gm at hz5 hwl hgl ⊢
      have hfl : b5.length ≤ 140737488355328 := by
        have := Gr.efail_len 2 b2 f2
        rw [← HF.out] at this
        simp only at this; omega
      refine (mread_any g gm B0 b5 f5 _ [] (by simp) hfl w5 he5 hz5).mono ?_
      rintro e w6 ⟨rfl, he6, hz6, h26⟩
      rw [Ms.steps_nil] at he6
      simp only at he6
      have hr6 : Blk w6 w.heap.size 27 (mCells Ms.zero none 0 none 0) := (h26.block _ hr5.lt (by omega) (by omega)).trans hr5
      have hbw6 := h26.below hbw5 hbw5.size (by omega) hwl
      clear he5 hz5 hz6 h26 hbw5 hr5 hgm
      go_wp2_with fail
      refine (eclose_any g B0 b5 f5 w6 he6).mono ?_
      rintro e w7 ⟨rfl, rfl⟩
      have h0 : Ms.close b5 f5 ≠ 0 := by
        have := Ms.close_bad (b := b2) (f := f2)
        rw [← HF.out] at this
        exact this
      have hE := HR.out.1.trans (readP_no HE.out Ms.MAX_lt (hasN_none v hv))
      rw [← HF.out] at hE
      simp only at hE
      obtain ⟨CL, hCL⟩ : ∃ CL, CL = Ms.close b5 f5 := ⟨_, rfl⟩
      rw [← hCL] at h0 hE ⊢
      clear hCL
      have HE2 := Lib.hid hE
      clear hE
      have hff : ((CL : Int) == 0) = false := by rw [beq_eq_false_iff_ne]; omega
      have hff2 : ((CL : Int) != 0) = true := by rw [bne_iff_ne]; omega
      go_wp2_with (refine wpList_store_blk rfl 27 (.tmp 2) (.tmp 37) rfl w.heap.size (mCells Ms.zero none 0 none 0) rfl rfl _ _ hr6 infoM16 rfl (mCells_one _ _ _ _ _) ?_; intro w8 hk8 hg8)
      refine bodyPost_ret (results_row2 Tryz.results20 _ _ w.heap.size _ _ _ rfl hk8 Tryz.underlying27 rfl infoM16) rfl ?_
      have hE := HE2.out
      subst hE
      exact ⟨_, rfl, ⟨none, 0, none, 0, rfl, Dat.nil _ _ _, Nat.le_refl _, RwS.nil _ _ _, Nat.le_refl _⟩, hbw6.grown hg8 hbw6.size (fun j hj => by injection hj; omega)⟩
    · have i9 : ¬ ((v : Int) ≤ 99) := by omega
      go_wp2_with fail
      refine (mkind_no 99 (by omega) _).mono ?_
      rintro e w3 ⟨rfl, hb3⟩
      have hk3 : Blk w3 w2.heap.size 27 (mCells Ms.zero none 0 none 0) := (Blk.new w2 _ _).stay hb3
      have he3 := (he2.below (alloc_b w2 _)).below hb3
      have hr3 := (hr2.alloc _).stay hb3
      rw [show decide (Ms.hasN 0 ≠ []) = false from rfl, show nameN 0 = [] from rfl, show Ms.hasN 0 = [] from rfl]
      have hbw3 : Below w.heap.size w w3 := (hbw2.trans ((alloc_b w2 _).mono hbw2.size)).trans (hb3.mono (Nat.le_trans hbw2.size (alloc_b w2 _).size))
      have hz3 := hm2 _ hk3
      clear hb3 hk3
      have he4 := he3.below (alloc_b w3 (.cells #[.string (strOf []), .string (strOf [])] 86))
      have hz4 := hz3.below (alloc_b w3 (.cells #[.string (strOf []), .string (strOf [])] 86))
      have hr4 := hr3.alloc (.cells #[.string (strOf []), .string (strOf [])] 86)
      have hp4 := Blk.new w3 86 #[.string (strOf []), .string (strOf [])]
      have hbw4 : Below w.heap.size w (w3.alloc (.cells #[.string (strOf []), .string (strOf [])] 86)) := hbw3.trans ((alloc_b _ _).mono hbw3.size)
      have hz3l := hz3.lt
      have hwl := hbw2.size
      go_wp2_with fail
      generalize (w3.alloc (.cells #[.string (strOf []), .string (strOf [])] 86)) = wq at he4 hz4 hr4 hp4 hbw4 ⊢
      refine (efail_any g B0 b2 f2 2 (by decide) wq he4).mono ?_
      rintro e w4 ⟨rfl, heq, hgq⟩
      have hzq := hz4.eye he4 hgq (by decide) (by decide) (by decide)
      have hrq := hr4.grown hgq (by intro e; injection e with e; omega)
      have hbwq := hbw4.grown hgq hbw4.size (fun j hj => by injection hj; omega)
      have hpq := hp4.grown hgq (by intro e; injection e with e; omega)
      obtain ⟨F, hF⟩ : ∃ F, F = Gr.efail 2 b2 f2 := ⟨_, rfl⟩
      rw [← hF] at heq
      have HF := Lib.hid hF
      clear hF he4 hz4 hr4 hp4 hbw4 hgq hz3 he3 hr3
      obtain ⟨b5, f5⟩ := F
      simp only at heq
      obtain ⟨hz5, he5, hg5⟩ := hzq.put (m' := {Ms.zero with kind := 99}) heq (by decide) 0 (.int .i64 99) rfl rfl rfl (fun _ _ _ _ => rfl)
      have hp5 := hpq.grown hg5 (by intro e; injection e with e; omega)
      have x0 := hzq.cell0
      have y0 := hzq.free 0
      have x1 := hp5.cell 1
      simp only [List.getElem?_toArray, List.getElem?_cons_succ, List.getElem?_cons_zero] at x1
      go_wp2_with fail
      have hbw5 := hbwq.grown hg5 hbwq.size (fun j hj => by injection hj; omega)
      have hr5 := hrq.grown hg5 (by intro e; injection e with e; omega)
      generalize (w4.setCell ⟨w2.heap.size, 0, none⟩ (.int .i64 99)) = w5 at hz5 he5 hbw5 hr5 ⊢
      clear x0 y0 x1 hp5 hg5 hzq heq hrq hpq hm2
      generalize hgm : w2.heap.size = gm at hz5 hwl hgl ⊢
      have hfl : b5.length ≤ 140737488355328 := by
        have := Gr.efail_len 2 b2 f2
        rw [← HF.out] at this
        simp only at this; omega
      refine (mread_any g gm B0 b5 f5 _ [] (by simp) hfl w5 he5 hz5).mono ?_
      rintro e w6 ⟨rfl, he6, hz6, h26⟩
      rw [Ms.steps_nil] at he6
      simp only at he6
      have hr6 : Blk w6 w.heap.size 27 (mCells Ms.zero none 0 none 0) := (h26.block _ hr5.lt (by omega) (by omega)).trans hr5
      have hbw6 := h26.below hbw5 hbw5.size (by omega) hwl
      clear he5 hz5 hz6 h26 hbw5 hr5 hgm
      go_wp2_with fail
      refine (eclose_any g B0 b5 f5 w6 he6).mono ?_
      rintro e w7 ⟨rfl, rfl⟩
      have h0 : Ms.close b5 f5 ≠ 0 := by
        have := Ms.close_bad (b := b2) (f := f2)
        rw [← HF.out] at this
        exact this
      have hE := HR.out.1.trans (readP_no HE.out Ms.MAX_lt (hasN_none v hv))
      rw [← HF.out] at hE
      simp only at hE
      obtain ⟨CL, hCL⟩ : ∃ CL, CL = Ms.close b5 f5 := ⟨_, rfl⟩
      rw [← hCL] at h0 hE ⊢
      clear hCL
      have HE2 := Lib.hid hE
      clear hE
      have hff : ((CL : Int) == 0) = false := by rw [beq_eq_false_iff_ne]; omega
      have hff2 : ((CL : Int) != 0) = true := by rw [bne_iff_ne]; omega
      go_wp2_with (refine wpList_store_blk rfl 27 (.tmp 2) (.tmp 37) rfl w.heap.size (mCells Ms.zero none 0 none 0) rfl rfl _ _ hr6 infoM16 rfl (mCells_one _ _ _ _ _) ?_; intro w8 hk8 hg8)
      refine bodyPost_ret (results_row2 Tryz.results20 _ _ w.heap.size _ _ _ rfl hk8 Tryz.underlying27 rfl infoM16) rfl ?_
      have hE := HE2.out
      subst hE
      exact ⟨_, rfl, ⟨none, 0, none, 0, rfl, Dat.nil _ _ _, Nat.le_refl _, RwS.nil _ _ _, Nat.le_refl _⟩, hbw6.grown hg8 hbw6.size (fun j hj => by injection hj; omega)⟩
theorem MsgV.more {w : World} {B0 B1 : Nat} {m : Ms.Msg} {v : Value} (h : MsgV w B0 m v) (hb : B0 ≤ B1) : MsgV w B1 m v := by
  obtain ⟨A, c, A2, c2, e, h1, h2, h3, h4⟩ := h
  exact ⟨A, c, A2, c2, e, h1.more hb, h2, h3.more hb, h4⟩
theorem mRead_any (A : Option Addr) (n c B0 : Nat) (b : List UInt8) (w : World) (hb : BS w B0 A n b) (hB : B0 ≤ w.heap.size) (hc : n ≤ c) (hn : n ≤ 140737488355328) :
    Calls Tryz.prog 20 #[.slice A n c] w (ReadRet w B0 (Ms.readP b)) := by
  refine (mRead0_any A n c B0 b w hb hB hc hn).mono ?_
  rintro e w' ⟨v, rfl, hv, hbw⟩
  exact ⟨v, rfl, hv.more (Nat.zero_le _), hbw⟩
end Go.Proofs.YthhhiiagppckhaaGreatDoor
end

section
namespace Go.Proofs.YthhhiiagppckhaaGreatDoor
open Go.RowKit Go.Proofs.U
set_option linter.unusedVariables false

theorem nodup_take {l : List UInt8} {k : Nat} {c : UInt8} (hn : l.Nodup) (h : l[k]? = some c) : c ∉ l.take k := by
  have hk : k < l.length := (List.getElem?_eq_some_iff.1 h).1
  have e : l = l.take k ++ l.drop k := (List.take_append_drop k l).symm
  rw [e, List.nodup_append] at hn
  intro hc
  have hd : c ∈ l.drop k := by
    have : (l.drop k)[0]? = some c := by rw [List.getElem?_drop]; simpa using h
    exact List.mem_of_getElem? this
  exact hn.2.2 c hc c hd rfl
theorem not_take {l : List UInt8} {k : Nat} {c : UInt8} (h : c ∉ l.take (k + 1)) : c ∉ l.take k := fun hc => h (by rw [List.take_add_one]; exact List.mem_append_left _ hc)
theorem in_take {l : List UInt8} {k : Nat} {c : UInt8} (h : l[k]? = some c) : c ∈ l.take (k + 1) := by rw [List.take_add_one, h]; simp
theorem idx_at {w : World} {l : List UInt8} {k : Nat} {c : UInt8} (h : l[k]? = some c) : (Instr.index 9 (.string (strOf l)) (.int .i64 (k : Int))).run Tryz.prog w = .ok (.int .u8 (c.toNat : Int)) w := by
  have hk : k < (strOf l).size := by rw [str_size]; exact (List.getElem?_eq_some_iff.1 h).1
  rw [run_index_string _ _ _ _ _ Tryz.underlying9, dif_pos (by omega)]
  have e := str_at l k c h hk
  simp only [Int.toNat_natCast, e]
theorem Calls.of_eq {P : Program} {f : Nat} {args : Array Value} {w w' : World} {Q : Ending → World → Prop} (h : w = w') (hc : Calls P f args w Q) : Calls P f args w' Q := h ▸ hc
theorem hasN_short (k : Nat) : (Ms.hasN k).length ≤ 10 := by
  by_cases h : 16 < k
  · rw [Ms.hasN_big k h]; simp
  · have : ∀ k : Fin 17, (Ms.hasN k.1).length ≤ 10 := by decide
    exact this ⟨k, by omega⟩
theorem str_old {w : World} {B0 : Nat} {A : Option Addr} {d : List UInt8} (h : BS w B0 A d.length d) (hB : B0 ≤ w.heap.size) (c : Nat) : (convert 24 9 (.slice A d.length c)).run Tryz.prog w = .ok (.string (strOf d)) w :=
  str_of (Dat.old h hB) c
end Go.Proofs.YthhhiiagppckhaaGreatDoor
end
