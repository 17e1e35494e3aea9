/- The walk of the reference's Next; conditions: none beyond its hypotheses. -/
import Derived.Test.YtmnanbcinfdbaaaGr3
import Derived.Test.YtmnanbcinfdbaaaGr4
namespace Go.Proofs.Ytmnanbcinfdbaaa
open Go.RowKit Go.Proofs.U
set_option linter.unusedVariables false

set_option maxRecDepth 100000 in
set_option maxHeartbeats 8000000 in
theorem rnext_any (A : Option Addr) (n c B0 : Nat) (b : List UInt8) (w : World) (hb : BS w B0 A n b) (hB : B0 ≤ w.heap.size) (hc : n ≤ c) (hn : n ≤ 140737488355328) :
    Calls Try.prog 10 #[.slice A n c] w (NextRet w B0 (Gr.nextP b)) := by
  obtain ⟨hz, hs⟩ := Go.zero_of_info zeroS
  have hl := hb.1
  have HL := Lib.hid (And.intro hl hs)
  obtain ⟨X, hX⟩ : ∃ X, X = Gr.nextP b := ⟨_, rfl⟩
  rw [← hX]
  have HX := Lib.hid hX
  clear hX hl hs
  go_enter Try.func10, Try.ntmps10
  go_wp2_with fail
  obtain ⟨ZS, hZS⟩ : ∃ ZS, ZS = Obj.cells #[.int .i64 0, .int .i64 0, .int .i64 0, .slice none 0 0] 25 := ⟨_, rfl⟩
  obtain ⟨ZE, hZE⟩ : ∃ ZE, ZE = Obj.cells #[.slice A n c, .int .i64 0] 68 := ⟨_, rfl⟩
  have hR3 : Blk (((w.alloc ZS).alloc ZE).alloc ZS) w.heap.size 25 #[.int .i64 0, .int .i64 0, .int .i64 0, .slice none 0 0] := by rw [hZS]; exact ((Blk.new _ _ _).alloc _).alloc _
  have he3k : Blk (((w.alloc ZS).alloc ZE).alloc ZS) (w.heap.size + 1) 68 #[.slice A n c, .int .i64 ((0 : Nat) : Int)] := by
    rw [hZE]
    have := (Blk.new (w.alloc ZS) 68 #[.slice A n c, .int .i64 ((0 : Nat) : Int)]).alloc ZS
    rw [World.size_alloc] at this
    exact this
  have hS3 : Blk (((w.alloc ZS).alloc ZE).alloc ZS) (w.heap.size + 1 + 1) 25 #[.int .i64 0, .int .i64 0, .int .i64 0, .slice none 0 0] := by
    have := Blk.new ((w.alloc ZS).alloc ZE) 25 #[.int .i64 0, .int .i64 0, .int .i64 0, .slice none 0 0]
    rw [World.size_alloc, World.size_alloc] at this
    rw [hZS] at this ⊢
    exact this
  have hbw3 : Below w.heap.size w (((w.alloc ZS).alloc ZE).alloc ZS) := (((Below.refl _ _).alloc (Nat.le_refl _) _).alloc (by simp) _).alloc (by simp; omega) _
  have he3 : EyeW (((w.alloc ZS).alloc ZE).alloc ZS) 68 (w.heap.size + 1) B0 b 0 := ⟨A, n, c, he3k, hb.below (hbw3.mono hB), hc, by omega⟩
  rw [← hZS, ← hZE]
  clear he3k
  generalize (((w.alloc ZS).alloc ZE).alloc ZS) = w3 at hR3 he3 hS3 hbw3 ⊢
  clear hZS hZE
  obtain ⟨g, hg⟩ : ∃ g, g = w.heap.size + 1 := ⟨_, rfl⟩
  obtain ⟨sb, hsb⟩ : ∃ sb, sb = w.heap.size + 1 + 1 := ⟨_, rfl⟩
  first
    | rw [show w.heap.size + 2 = sb by omega]
    | rw [← hsb]
  rw [← hg]
  rw [← hg] at he3
  rw [← hsb] at hS3
  have hgs : w.heap.size < g := by omega
  have hgb : g < sb := by omega
  clear hg hsb
  have hbl : b.length ≤ 140737488355328 := by rw [HL.out.1]; exact hn
  obtain ⟨r1, hr1⟩ : ∃ r1, Gr.enum 2 b 0 = r1 := ⟨_, rfl⟩
  have hk2 := Gr.enum_le 2 b 0
  have hl1 := Gr.enum_len 2 b 0
  refine (rint_any g B0 b 0 2 (by omega) (by omega) w3 he3).mono ?_
  rw [hr1] at hk2 hl1 ⊢
  have HR1 := Lib.hid hr1
  clear hr1
  obtain ⟨k, b1, f1⟩ := r1
  rintro e w4 ⟨rfl, he4, hg4⟩
  simp only at he4 hk2 hl1 ⊢
  have hS4 := hS3.grown hg4 (by intro e; injection e; omega)
  have hR4 := hR3.grown hg4 (by intro e; injection e; omega)
  have hbw4 := hbw3.grown hg4 hbw3.size (fun k hk => by injection hk; omega)
  clear hS3 hR3 hbw3 he3 hg4
  have c0 := hS4.cell 0
  simp at c0
  have f0 := hS4.frozen 0
  have hsl := hS4.lt
  have hcase : k = 0 ∨ k = 1 ∨ k = 2 := by omega
  have hg5 : w4.grownBy (w4.setCell ⟨sb, 0, none⟩ (.int .i64 (k : Int))) (some sb) := only_setCell (World.grownBy.refl _ _) (.inl rfl) _
  have hS5 := hS4.set_ 0 (.int .i64 (k : Int))
  have hR5 := hR4.grown hg5 (by intro e; injection e; omega)
  have he5 := he4.grown hg5 (by omega) (by omega)
  have hbw5 := hbw4.setCell (p := ⟨sb, 0, none⟩) (by show w.heap.size ≤ sb; omega) (.int .i64 (k : Int))
  simp at hS5
  have hw5 : ∀ V, (w4.setCell ⟨sb, 0, none⟩ V) = (w4.setCell ⟨sb, 0, none⟩ V) := fun _ => rfl
  clear hw5
  rcases hcase with rfl | rfl | rfl
  · simp at hS5 he5 hbw5 hR5
    have q1 := he5.c1
    by_cases hf : f1 = 0
    · subst hf
      have p0 := hS5.cell 0
      simp at p0 q1
      go_wp2_with fail
      generalize (w4.setCell ⟨sb, 0, none⟩ (.int .i64 0)) = w5 at hS5 he5 hbw5 hR5 q1 p0 ⊢
      refine (refail_any g B0 b1 0 2 (by omega) w5 he5).mono ?_
      rintro e w8 ⟨rfl, he8, hg8⟩
      simp only [Gr.efail_new 2 b1 (by decide)] at he8
      have hR8 := hR5.grown hg8 (by intro e; injection e; omega)
      have hS8 := hS5.grown hg8 (by intro e; injection e; omega)
      have hbw8 := hbw5.grown hg8 hbw5.size (fun k hk => by injection hk; omega)
      have q8 := he8.c1
      have p8 := hS8.cell 0
      simp at p8 q8
      clear hS5 he5 hbw5 hR5 q1 p0 hS4 hR4 he4 hbw4 c0 f0 hsl hg5
      obtain ⟨A8, n8, c8, hk8, hb8, hc8, -⟩ := id he8
      have q1 := he8.c1
      have s0 := hR8.cell 0
      have s1 := hR8.cell 1
      have s2 := hR8.cell 2
      have s3 := hR8.cell 3
      have z0 := hR8.frozen 0
      have z1 := hR8.frozen 1
      have z2 := hR8.frozen 2
      have z3 := hR8.frozen 3
      simp at s0 s1 s2 s3
      go_wp2_with fail
      go_region_law (fail)
      all_goals
        go_wp2_with fail
        have hE := HX.out.trans (Gr.nextP0 (Gr.numP_zero HR1.out rfl) rfl)
        subst hE
        refine bodyPost_ret (v := .tuple #[.agg #[.int .i64 0, .int .i64 0, .int .i64 0, .slice none 0 0], .int .i64 0, .int .i64 2]) (by simp [results, Try.results10, go_sem, s0, s1, s2, s3]) rfl ?_
        exact ⟨none, 0, rfl, Dat.nil _ _ _, Nat.le_refl _, below_drewN ((((hbw8.setCell (p := ⟨w.heap.size, 0, none⟩) (Nat.le_refl _) _).setCell (p := ⟨w.heap.size, 1, none⟩) (Nat.le_refl _) _).setCell (p := ⟨w.heap.size, 2, none⟩) (Nat.le_refl _) _).setCell (p := ⟨w.heap.size, 3, none⟩) (Nat.le_refl _) _) 1⟩
    · have hff : ((f1 : Int) == 0) = false := by rw [beq_eq_false_iff_ne]; omega
      have hff2 : ((f1 : Int) != 0) = true := by rw [bne_iff_ne]; omega
      have p0 := hS5.cell 0
      simp at p0
      go_wp2_with fail
      generalize (w4.setCell ⟨sb, 0, none⟩ (.int .i64 0)) = w8 at hS5 he5 hbw5 hR5 q1 p0 ⊢
      have hR8 := hR5
      have he8 := he5
      have hbw8 := hbw5
      obtain ⟨A8, n8, c8, hk8, hb8, hc8, -⟩ := id he8
      have q1 := he8.c1
      have s0 := hR8.cell 0
      have s1 := hR8.cell 1
      have s2 := hR8.cell 2
      have s3 := hR8.cell 3
      have z0 := hR8.frozen 0
      have z1 := hR8.frozen 1
      have z2 := hR8.frozen 2
      have z3 := hR8.frozen 3
      simp at s0 s1 s2 s3
      go_region_law (fail)
      all_goals
        go_wp2_with fail
        have hE := HX.out.trans ((Gr.nextP0 (Gr.numP_zero HR1.out rfl) rfl).trans (by rw [Gr.efail_old _ _ _ hf]))
        subst hE
        refine bodyPost_ret (v := .tuple #[.agg #[.int .i64 0, .int .i64 0, .int .i64 0, .slice none 0 0], .int .i64 0, .int .i64 (f1 : Int)]) (by simp [results, Try.results10, go_sem, s0, s1, s2, s3]) rfl ?_
        exact ⟨none, 0, rfl, Dat.nil _ _ _, Nat.le_refl _, below_drewN ((((hbw8.setCell (p := ⟨w.heap.size, 0, none⟩) (Nat.le_refl _) _).setCell (p := ⟨w.heap.size, 1, none⟩) (Nat.le_refl _) _).setCell (p := ⟨w.heap.size, 2, none⟩) (Nat.le_refl _) _).setCell (p := ⟨w.heap.size, 3, none⟩) (Nat.le_refl _) _) 1⟩
  · simp at hS5 he5 hbw5 hR5
    have q1 := he5.c1
    have p0 := hS5.cell 0
    simp at p0
    rcases (show f1 = 0 ∨ f1 ≠ 0 by omega) with hf1 | hf1
    all_goals
      first
        | (have hff1 : ((f1 : Int) == 0) = true := by rw [beq_iff_eq]; omega)
        | (have hff1 : ((f1 : Int) == 0) = false := by rw [beq_eq_false_iff_ne]; omega)
      obtain ⟨r2, hr2⟩ : ∃ r2, Gr.enum 4096 b1 f1 = r2 := ⟨_, rfl⟩
      have hl2 := Gr.enum_len 4096 b1 f1
      have hi2 := fun w' h' => rint_any g B0 b1 f1 4096 (by omega) (by omega) w' h'
      rw [hr2] at hl2 hi2
      obtain ⟨fr, b2, f2⟩ := r2
      obtain ⟨r3, hr3⟩ : ∃ r3, Gr.enum 4096 b2 f2 = r3 := ⟨_, rfl⟩
      have hl3 := Gr.enum_len 4096 b2 f2
      have hi3 := fun w' h' => rint_any g B0 b2 f2 4096 (by omega) (by simp only at hl2; omega) w' h'
      rw [hr3] at hl3 hi3
      obtain ⟨ln, b3, f3⟩ := r3
      simp only at hl2 hl3
      have HR2 := Lib.hid (And.intro hr2 hr3)
      have HI := Lib.hid (And.intro hi2 hi3)
      clear hr2 hr3 hi2 hi3
      go_wp2_with fail
      generalize (w4.setCell ⟨sb, 0, none⟩ (.int .i64 1)) = w5 at hS5 he5 hbw5 hR5 q1 p0 ⊢
      clear hS4 hR4 he4 hbw4 c0 f0 hsl hg5
      refine (HI.out.1 w5 he5).mono ?_
      rintro e w6 ⟨rfl, he6, hg6⟩
      simp only at he6 ⊢
      have hS6 := hS5.grown hg6 (by intro e; injection e; omega)
      have hR6 := hR5.grown hg6 (by intro e; injection e; omega)
      have hbw6 := hbw5.grown hg6 hbw5.size (fun k hk => by injection hk; omega)
      have c1 := hS6.cell 1
      simp at c1
      have f1' := hS6.frozen 1
      have hS7 := hS6.set_ 1 (.int .i64 (fr : Int))
      have hg7 : w6.grownBy (w6.setCell ⟨sb, 1, none⟩ (.int .i64 (fr : Int))) (some sb) := only_setCell (World.grownBy.refl _ _) (.inl rfl) _
      have hR7 := hR6.grown hg7 (by intro e; injection e; omega)
      have he7 := he6.grown hg7 (by omega) (by omega)
      have hbw7 := hbw6.setCell (p := ⟨sb, 1, none⟩) (by show w.heap.size ≤ sb; omega) (.int .i64 (fr : Int))
      simp at hS7
      clear q1 p0 hS5 he5 hbw5 hR5 hg6
      go_wp2_with fail
      generalize (w6.setCell ⟨sb, 1, none⟩ (.int .i64 (fr : Int))) = w7 at hS7 he7 hbw7 hR7 ⊢
      clear hS6 hR6 he6 hbw6 c1 f1' hg7
      refine (HI.out.2 w7 he7).mono ?_
      rintro e w6 ⟨rfl, he6, hg6⟩
      simp only at he6 ⊢
      have hS6 := hS7.grown hg6 (by intro e; injection e; omega)
      have hR6 := hR7.grown hg6 (by intro e; injection e; omega)
      have hbw6 := hbw7.grown hg6 hbw7.size (fun k hk => by injection hk; omega)
      have c2 := hS6.cell 2
      simp at c2
      have f2' := hS6.frozen 2
      have hS8 := hS6.set_ 2 (.int .i64 (ln : Int))
      have hg8 : w6.grownBy (w6.setCell ⟨sb, 2, none⟩ (.int .i64 (ln : Int))) (some sb) := only_setCell (World.grownBy.refl _ _) (.inl rfl) _
      have hR8 := hR6.grown hg8 (by intro e; injection e; omega)
      have he8 := he6.grown hg8 (by omega) (by omega)
      have hbw8 := hbw6.setCell (p := ⟨sb, 2, none⟩) (by show w.heap.size ≤ sb; omega) (.int .i64 (ln : Int))
      simp at hS8
      have p0 := hS8.cell 0
      have p2 := hS8.cell 2
      have q8 := he8.c1
      simp at p0 p2
      have hln := HL.out.1
      have hlx : b3.length ≤ n := by omega
      have hn1 : Gr.numP 2 b 0 = (1, b1, f1) := Gr.numP_pos HR1.out (by simp)
      have HN1 := Lib.hid hn1
      clear hS7 hR7 hbw7 he7 hg6 hln hn1
      rcases (show (f3 = 0 ∧ ln = 0) ∨ (f3 = 0 ∧ ln ≠ 0) ∨ f3 ≠ 0 by omega) with ⟨rfl, rfl⟩ | ⟨rfl, hln0⟩ | hf3
      · simp at p2 q8 hS8 he8 hbw8 hR8
        try simp at p0
        go_wp2_with fail
        generalize (w6.setCell ⟨sb, 2, none⟩ (.int .i64 0)) = w7 at hS8 he8 hbw8 hR8 q8 p0 p2 ⊢
        clear hS6 hR6 he6 hbw6 c2 f2' hg8
        refine (refail_any g B0 b3 0 2 (by omega) w7 he8).mono ?_
        rintro e w9 ⟨rfl, he9, hg9⟩
        simp only [Gr.efail_new 2 b3 (by decide)] at he9
        have hR9 := hR8.grown hg9 (by intro e; injection e; omega)
        have hbw9 := hbw8.grown hg9 hbw8.size (fun k hk => by injection hk; omega)
        clear hS8 he8 hbw8 hR8 q8 p0 p2
        have he8 := he9
        have hR8 := hR9
        have hbw8 := hbw9
        obtain ⟨A8, n8, c8, hk8, hb8, hc8, -⟩ := id he8
        have q1 := he8.c1
        have s0 := hR8.cell 0
        have s1 := hR8.cell 1
        have s2 := hR8.cell 2
        have s3 := hR8.cell 3
        have z0 := hR8.frozen 0
        have z1 := hR8.frozen 1
        have z2 := hR8.frozen 2
        have z3 := hR8.frozen 3
        simp at s0 s1 s2 s3
        go_wp2_with fail
        go_region_law (fail)
        all_goals
          go_wp2_with fail
          have hE := HX.out.trans (Gr.nextP1_bad (ln := 0) (b3 := []) (f3 := 2) HN1.out HR2.out.1 (Gr.numP_zero HR2.out.2 rfl) (by decide))
          subst hE
          refine bodyPost_ret (v := .tuple #[.agg #[.int .i64 0, .int .i64 0, .int .i64 0, .slice none 0 0], .int .i64 0, .int .i64 2]) (by simp [results, Try.results10, go_sem, s0, s1, s2, s3]) rfl ?_
          exact ⟨none, 0, rfl, Dat.nil _ _ _, Nat.le_refl _, below_drewN ((((hbw8.setCell (p := ⟨w.heap.size, 0, none⟩) (Nat.le_refl _) _).setCell (p := ⟨w.heap.size, 1, none⟩) (Nat.le_refl _) _).setCell (p := ⟨w.heap.size, 2, none⟩) (Nat.le_refl _) _).setCell (p := ⟨w.heap.size, 3, none⟩) (Nat.le_refl _) _) 1⟩
      · have hln1 : ((ln : Int) == 0) = false := by rw [beq_eq_false_iff_ne]; omega
        simp at q8
        go_wp2_with fail
        generalize (w6.setCell ⟨sb, 2, none⟩ (.int .i64 (ln : Int))) = w8 at hS8 he8 hbw8 hR8 q8 p0 p2 ⊢
        clear hS6 hR6 he6 hbw6 c2 f2' hg8 q8 p0 p2
        obtain ⟨A8, n8, c8, hk8, hb8, hc8, -⟩ := id he8
        have q1 := he8.c1
        have q0 := hk8.cell 0
        have s0 := hR8.cell 0
        have s1 := hR8.cell 1
        have s2 := hR8.cell 2
        have s3 := hR8.cell 3
        have z0 := hR8.frozen 0
        have z1 := hR8.frozen 1
        have z2 := hR8.frozen 2
        have z3 := hR8.frozen 3
        have t0 := hS8.cell 0
        have t1 := hS8.cell 1
        have t2 := hS8.cell 2
        have t3 := hS8.cell 3
        simp at s0 s1 s2 s3 t0 t1 t2 t3 q0
        have hl8 := hb8.1
        have hl8' : (n8 : Int) ≤ (n : Int) := by omega
        have hw8 : IntKind.i64.wrap ((n : Int) - (n8 : Int)) = (n : Int) - (n8 : Int) := IntWalk.i64_in _ (by omega)
        have hnn : (n : Int) - (n8 : Int) = ((b.length - b3.length : Nat) : Int) := by rw [HL.out.1]; omega
        have HNN := Lib.hid hnn
        clear hl8 hnn
        go_region_law (fail)
        all_goals
          go_wp2_with fail
          have hE := HX.out.trans (Gr.nextP1_ok HN1.out HR2.out.1 (Gr.numP_pos HR2.out.2 hln0))
          subst hE
          refine bodyPost_ret (v := .tuple #[.agg #[.int .i64 1, .int .i64 (fr : Int), .int .i64 (ln : Int), .slice none 0 0], .int .i64 ((n : Int) - (n8 : Int)), .int .i64 0]) (by simp [results, Try.results10, go_sem, s0, s1, s2, s3]) rfl ?_
          have hgx8 := only_drewN (only_setCell (only_setCell (only_setCell (only_setCell (World.grownBy.refl w8 (some w.heap.size)) (p := ⟨w.heap.size, 0, none⟩) (.inl rfl) (.int .i64 1)) (p := ⟨w.heap.size, 1, none⟩) (.inl rfl) (.int .i64 (fr : Int))) (p := ⟨w.heap.size, 2, none⟩) (.inl rfl) (.int .i64 (ln : Int))) (p := ⟨w.heap.size, 3, none⟩) (.inl rfl) (.slice none 0 0)) 1
          exact ⟨_, _, by rw [HNN.out]; rfl, Dat.nil _ _ _, Nat.le_refl _, below_drewN ((((hbw8.setCell (p := ⟨w.heap.size, 0, none⟩) (Nat.le_refl _) _).setCell (p := ⟨w.heap.size, 1, none⟩) (Nat.le_refl _) _).setCell (p := ⟨w.heap.size, 2, none⟩) (Nat.le_refl _) _).setCell (p := ⟨w.heap.size, 3, none⟩) (Nat.le_refl _) _) 1⟩
      · have hff : ((f3 : Int) == 0) = false := by rw [beq_eq_false_iff_ne]; omega
        have hff2 : ((f3 : Int) != 0) = true := by rw [bne_iff_ne]; omega
        go_wp2_with fail
        generalize (w6.setCell ⟨sb, 2, none⟩ (.int .i64 (ln : Int))) = w8 at hS8 he8 hbw8 hR8 q8 p0 p2 ⊢
        clear hS6 hR6 he6 hbw6 c2 f2' hg8 q8 p0 p2
        obtain ⟨A8, n8, c8, hk8, hb8, hc8, -⟩ := id he8
        have q1 := he8.c1
        have s0 := hR8.cell 0
        have s1 := hR8.cell 1
        have s2 := hR8.cell 2
        have s3 := hR8.cell 3
        have z0 := hR8.frozen 0
        have z1 := hR8.frozen 1
        have z2 := hR8.frozen 2
        have z3 := hR8.frozen 3
        simp at s0 s1 s2 s3
        go_region_law (fail)
        all_goals
          go_wp2_with fail
          have hE := HX.out.trans (Gr.nextP1_bad HN1.out HR2.out.1 (Gr.numP_old HR2.out.2 hf3) hf3)
          subst hE
          refine bodyPost_ret (v := .tuple #[.agg #[.int .i64 0, .int .i64 0, .int .i64 0, .slice none 0 0], .int .i64 0, .int .i64 (f3 : Int)]) (by simp [results, Try.results10, go_sem, s0, s1, s2, s3]) rfl ?_
          exact ⟨none, 0, rfl, Dat.nil _ _ _, Nat.le_refl _, below_drewN ((((hbw8.setCell (p := ⟨w.heap.size, 0, none⟩) (Nat.le_refl _) _).setCell (p := ⟨w.heap.size, 1, none⟩) (Nat.le_refl _) _).setCell (p := ⟨w.heap.size, 2, none⟩) (Nat.le_refl _) _).setCell (p := ⟨w.heap.size, 3, none⟩) (Nat.le_refl _) _) 1⟩
  · simp at hS5 he5 hbw5 hR5
    have q1 := he5.c1
    have p0 := hS5.cell 0
    simp at p0
    rcases (show f1 = 0 ∨ f1 ≠ 0 by omega) with hf1 | hf1
    all_goals
      first
        | (have hff1 : ((f1 : Int) == 0) = true := by rw [beq_iff_eq]; omega)
        | (have hff1 : ((f1 : Int) == 0) = false := by rw [beq_eq_false_iff_ne]; omega)
      obtain ⟨r2, hr2⟩ : ∃ r2, Gr.etext 128 b1 f1 = r2 := ⟨_, rfl⟩
      have hl2 := Gr.etext_left 128 b1 f1
      have hd2 := Gr.etext_len 128 b1 f1
      have hi2 := fun w' h' => rtext_any g B0 b1 f1 128 (by omega) (by omega) w' h'
      rw [hr2] at hl2 hd2 hi2
      obtain ⟨d, b2, f2⟩ := r2
      simp only at hl2 hd2
      have HR2 := Lib.hid hr2
      have HI := Lib.hid hi2
      clear hr2 hi2
      go_wp2_with fail
      generalize (w4.setCell ⟨sb, 0, none⟩ (.int .i64 2)) = w5 at hS5 he5 hbw5 hR5 q1 p0 ⊢
      clear hS4 hR4 he4 hbw4 c0 f0 hsl hg5
      refine (HI.out w5 he5).mono ?_
      rintro e w6 ⟨A3, c3, rfl, hcd, hbd6, he6, hg6⟩
      simp only at he6 hbd6 hcd ⊢
      obtain ⟨dl, hdl⟩ : ∃ dl, dl = d.length := ⟨_, rfl⟩
      rw [← hdl] at hd2 hbd6 hcd ⊢
      have HDL := Lib.hid hdl
      clear hdl
      have hS6 := hS5.grown hg6 (by intro e; injection e; omega)
      have hR6 := hR5.grown hg6 (by intro e; injection e; omega)
      have hbw6 := hbw5.grown hg6 hbw5.size (fun k hk => by injection hk; omega)
      have c3' := hS6.cell 3
      have c2 := hS6.cell 2
      simp at c3' c2
      have f3' := hS6.frozen 3
      have f2' := hS6.frozen 2
      have hS7 := hS6.set_ 3 (.slice A3 dl c3)
      have hg7 : w6.grownBy (w6.setCell ⟨sb, 3, none⟩ (.slice A3 dl c3)) (some sb) := only_setCell (World.grownBy.refl _ _) (.inl rfl) _
      have hR7 := hR6.grown hg7 (by intro e; injection e; omega)
      have he7 := he6.grown hg7 (by omega) (by omega)
      have hbw7 := hbw6.setCell (p := ⟨sb, 3, none⟩) (by show w.heap.size ≤ sb; omega) (.slice A3 dl c3)
      simp at hS7
      have hbd7 : BS (w6.setCell ⟨sb, 3, none⟩ (.slice A3 dl c3)) B0 A3 dl d := hbd6.grown hg7 (by have := hS6.lt; omega) (fun k hk => by injection hk; omega)
      have c2' := hS7.cell 2
      simp at c2'
      clear q1 p0 hS5 he5 hbw5 hR5 hg6
      have hS8a := hS7.set_ 2 (.int .i64 (dl : Int))
      have hg8 : w6.grownBy ((w6.setCell ⟨sb, 3, none⟩ (.slice A3 dl c3)).setCell ⟨sb, 2, none⟩ (.int .i64 (dl : Int))) (some sb) := only_two
      have hR8 := hR6.grown hg8 (by intro e; injection e; omega)
      have he8 := he6.grown hg8 (by omega) (by omega)
      have hbw8 := hbw7.setCell (p := ⟨sb, 2, none⟩) (by show w.heap.size ≤ sb; omega) (.int .i64 (dl : Int))
      have hbd8 : BS ((w6.setCell ⟨sb, 3, none⟩ (.slice A3 dl c3)).setCell ⟨sb, 2, none⟩ (.int .i64 (dl : Int))) B0 A3 dl d := hbd6.grown hg8 (by have := hS6.lt; omega) (fun k hk => by injection hk; omega)
      simp at hS8a
      have hS8 := hS8a
      have p0 := hS8.cell 0
      have p2 := hS8.cell 2
      have q8 := he8.c1
      simp at p0 p2
      have hln := HL.out.1
      have hlx : b2.length ≤ n := by omega
      have hn1 : Gr.numP 2 b 0 = (2, b1, f1) := Gr.numP_pos HR1.out (by simp)
      have HN1 := Lib.hid hn1
      clear hS8a hS7 he7 hbw7 hR7 hbd7 c2' hg7 hln hn1
      rcases (show (f2 = 0 ∧ dl = 0) ∨ (f2 = 0 ∧ dl ≠ 0) ∨ f2 ≠ 0 by omega) with ⟨rfl, rfl⟩ | ⟨rfl, hln0⟩ | hf3
      · simp at p2 q8 hS8 he8 hbw8 hR8
        try simp at p0
        go_wp2_with fail
        generalize ((w6.setCell ⟨sb, 3, none⟩ (.slice A3 0 c3)).setCell ⟨sb, 2, none⟩ (.int .i64 0)) = w7 at hS8 he8 hbw8 hR8 q8 p0 p2 ⊢
        clear hS6 hR6 he6 hbw6 c2 f2' c3' f3' hg8 hbd8
        refine (refail_any g B0 b2 0 2 (by omega) w7 he8).mono ?_
        rintro e w9 ⟨rfl, he9, hg9⟩
        simp only [Gr.efail_new 2 b2 (by decide)] at he9
        have hR9 := hR8.grown hg9 (by intro e; injection e; omega)
        have hbw9 := hbw8.grown hg9 hbw8.size (fun k hk => by injection hk; omega)
        clear hS8 he8 hbw8 hR8 q8 p0 p2
        have he8 := he9
        have hR8 := hR9
        have hbw8 := hbw9
        obtain ⟨A8, n8, c8, hk8, hb8, hc8, -⟩ := id he8
        have q1 := he8.c1
        have s0 := hR8.cell 0
        have s1 := hR8.cell 1
        have s2 := hR8.cell 2
        have s3 := hR8.cell 3
        have z0 := hR8.frozen 0
        have z1 := hR8.frozen 1
        have z2 := hR8.frozen 2
        have z3 := hR8.frozen 3
        simp at s0 s1 s2 s3
        go_wp2_with fail
        go_region_law (fail)
        all_goals
          go_wp2_with fail
          have hE := HX.out.trans (Gr.nextP2_bad HN1.out HR2.out (b4 := []) (f4 := 2) (by rw [if_pos HDL.out.symm]; rfl) (by decide))
          subst hE
          refine bodyPost_ret (v := .tuple #[.agg #[.int .i64 0, .int .i64 0, .int .i64 0, .slice none 0 0], .int .i64 0, .int .i64 2]) (by simp [results, Try.results10, go_sem, s0, s1, s2, s3]) rfl ?_
          exact ⟨none, 0, rfl, Dat.nil _ _ _, Nat.le_refl _, below_drewN ((((hbw8.setCell (p := ⟨w.heap.size, 0, none⟩) (Nat.le_refl _) _).setCell (p := ⟨w.heap.size, 1, none⟩) (Nat.le_refl _) _).setCell (p := ⟨w.heap.size, 2, none⟩) (Nat.le_refl _) _).setCell (p := ⟨w.heap.size, 3, none⟩) (Nat.le_refl _) _) 1⟩
      · have hln1 : ((dl : Int) == 0) = false := by rw [beq_eq_false_iff_ne]; omega
        simp at q8
        go_wp2_with fail
        generalize ((w6.setCell ⟨sb, 3, none⟩ (.slice A3 dl c3)).setCell ⟨sb, 2, none⟩ (.int .i64 (dl : Int))) = w8 at hS8 he8 hbw8 hR8 hbd8 q8 p0 p2 ⊢
        clear hS6 hR6 he6 hbw6 c2 f2' c3' f3' hg8 q8 p0 p2
        obtain ⟨A8, n8, c8, hk8, hb8, hc8, -⟩ := id he8
        have q1 := he8.c1
        have q0 := hk8.cell 0
        have s0 := hR8.cell 0
        have s1 := hR8.cell 1
        have s2 := hR8.cell 2
        have s3 := hR8.cell 3
        have z0 := hR8.frozen 0
        have z1 := hR8.frozen 1
        have z2 := hR8.frozen 2
        have z3 := hR8.frozen 3
        have t0 := hS8.cell 0
        have t1 := hS8.cell 1
        have t2 := hS8.cell 2
        have t3 := hS8.cell 3
        simp at s0 s1 s2 s3 t0 t1 t2 t3 q0
        have hl8 := hb8.1
        have hl8' : (n8 : Int) ≤ (n : Int) := by omega
        have hw8 : IntKind.i64.wrap ((n : Int) - (n8 : Int)) = (n : Int) - (n8 : Int) := IntWalk.i64_in _ (by omega)
        have hnn : (n : Int) - (n8 : Int) = ((b.length - b2.length : Nat) : Int) := by rw [HL.out.1]; omega
        have HNN := Lib.hid hnn
        clear hl8 hnn
        go_region_law (fail)
        all_goals
          go_wp2_with fail
          have hE := HX.out.trans (Gr.nextP2_ok HN1.out HR2.out (b4 := b2) (by rw [if_neg (by rw [← HDL.out]; exact hln0)]))
          subst hE
          refine bodyPost_ret (v := .tuple #[.agg #[.int .i64 2, .int .i64 0, .int .i64 (dl : Int), .slice A3 dl c3], .int .i64 ((n : Int) - (n8 : Int)), .int .i64 0]) (by simp [results, Try.results10, go_sem, s0, s1, s2, s3]) rfl ?_
          have hgx8 := only_drewN (only_setCell (only_setCell (only_setCell (only_setCell (World.grownBy.refl w8 (some w.heap.size)) (p := ⟨w.heap.size, 0, none⟩) (.inl rfl) (.int .i64 2)) (p := ⟨w.heap.size, 1, none⟩) (.inl rfl) (.int .i64 0)) (p := ⟨w.heap.size, 2, none⟩) (.inl rfl) (.int .i64 (dl : Int))) (p := ⟨w.heap.size, 3, none⟩) (.inl rfl) (.slice A3 dl c3)) 1
          exact ⟨_, _, by simp only; rw [HNN.out, ← HDL.out]; rfl, Dat.old (by simp only; rw [← HDL.out]; exact hbd8.grown hgx8 (by have := hR8.lt; omega) (fun k hk => by injection hk; omega)) (Nat.le_trans (Nat.le_trans hB (Nat.le_of_lt hR8.lt)) hgx8.size), by simp only; rw [← HDL.out]; exact hcd, below_drewN ((((hbw8.setCell (p := ⟨w.heap.size, 0, none⟩) (Nat.le_refl _) _).setCell (p := ⟨w.heap.size, 1, none⟩) (Nat.le_refl _) _).setCell (p := ⟨w.heap.size, 2, none⟩) (Nat.le_refl _) _).setCell (p := ⟨w.heap.size, 3, none⟩) (Nat.le_refl _) _) 1⟩
      · have hff : ((f2 : Int) == 0) = false := by rw [beq_eq_false_iff_ne]; omega
        have hff2 : ((f2 : Int) != 0) = true := by rw [bne_iff_ne]; omega
        go_wp2_with fail
        generalize ((w6.setCell ⟨sb, 3, none⟩ (.slice A3 dl c3)).setCell ⟨sb, 2, none⟩ (.int .i64 (dl : Int))) = w8 at hS8 he8 hbw8 hR8 q8 p0 p2 ⊢
        clear hS6 hR6 he6 hbw6 c2 f2' c3' f3' hg8 hbd8 q8 p0 p2
        obtain ⟨A8, n8, c8, hk8, hb8, hc8, -⟩ := id he8
        have q1 := he8.c1
        have s0 := hR8.cell 0
        have s1 := hR8.cell 1
        have s2 := hR8.cell 2
        have s3 := hR8.cell 3
        have z0 := hR8.frozen 0
        have z1 := hR8.frozen 1
        have z2 := hR8.frozen 2
        have z3 := hR8.frozen 3
        simp at s0 s1 s2 s3
        go_region_law (fail)
        all_goals
          go_wp2_with fail
          have hE := HX.out.trans (Gr.nextP2_bad HN1.out HR2.out (Gr.x_old hf3) hf3)
          subst hE
          refine bodyPost_ret (v := .tuple #[.agg #[.int .i64 0, .int .i64 0, .int .i64 0, .slice none 0 0], .int .i64 0, .int .i64 (f2 : Int)]) (by simp [results, Try.results10, go_sem, s0, s1, s2, s3]) rfl ?_
          exact ⟨none, 0, rfl, Dat.nil _ _ _, Nat.le_refl _, below_drewN ((((hbw8.setCell (p := ⟨w.heap.size, 0, none⟩) (Nat.le_refl _) _).setCell (p := ⟨w.heap.size, 1, none⟩) (Nat.le_refl _) _).setCell (p := ⟨w.heap.size, 2, none⟩) (Nat.le_refl _) _).setCell (p := ⟨w.heap.size, 3, none⟩) (Nat.le_refl _) _) 1⟩
end Go.Proofs.Ytmnanbcinfdbaaa
