/- The walk of delta.Next; conditions: none beyond its hypotheses. -/
import Derived.Test.YtmnanbcinfdbaaaDoorMgGr1
import Derived.Test.YtmnanbcinfdbaaaDoorMgU
import Derived.Test.YtmnanbcinfdbaaaDoorMgSl
import Derived.Deep.WholeRow
import Derived.IntWalk
import Derived.Deep.LoopGhost
import Derived.Deep.QuietTactic
import Derived.BigQuiet
set_option linter.unusedSimpArgs false
set_option linter.unusedVariables false
section
namespace Go.Proofs.YtmnanbcinfdbaaaDoor
open Go.RowKit Go.Proofs.U
set_option linter.unusedVariables false

/-- bytes behind a slice value: in old blocks, or in rows of bytes -/
def Dat (w : World) (B0 : Nat) (A : Option Addr) (bs : List UInt8) : Prop :=
  BS w w.heap.size A bs.length bs ∧ (0 < bs.length → ∀ a, A = some a → a.block < B0 ∨ ∃ cur fr, w.heap[a.block]? = some (.cells cur 5 fr))
theorem Dat.nil (w : World) (B0 : Nat) (A : Option Addr) : Dat w B0 A [] := ⟨BS.nil _ _ _, fun h => absurd h (by simp)⟩
theorem Dat.old {w : World} {B0 : Nat} {A : Option Addr} {bs : List UInt8} (h : BS w B0 A bs.length bs) (hB : B0 ≤ w.heap.size) : Dat w B0 A bs :=
  ⟨h.more hB, fun hn a ha => .inl (by obtain ⟨b, off, e, hlt, _⟩ := h.2 hn; rw [ha] at e; injection e with e; subst e; exact hlt)⟩
theorem Dat.own {w : World} {base B0 n c : Nat} {A : Option Addr} {bs : List UInt8} (h : Own w base 5 A n c bs) : Dat w B0 A bs := by
  have hl := h.len
  subst hl
  refine ⟨h.bs, fun hn a ha => .inr ?_⟩
  rcases h.2 with ⟨hv, h0⟩ | ⟨g, cap, cur, hv, hg, hh, _⟩
  · omega
  · injection hv with hA
    rw [hA] at ha
    obtain rfl := Option.some.inj ha
    exact ⟨cur, _, hh⟩
theorem Dat.below {w w' : World} {B0 : Nat} {A : Option Addr} {bs : List UInt8} (h : Dat w B0 A bs) (hb : Below w.heap.size w w') : Dat w' B0 A bs := by
  refine ⟨(h.1.below hb).more hb.size, fun hn a ha => ?_⟩
  rcases h.2 hn a ha with hlt | ⟨cur, fr, hh⟩
  · exact .inl hlt
  · exact .inr ⟨cur, fr, (hb.block _ (Array.getElem?_eq_some_iff.1 hh).1).trans hh⟩
/-- a block of another kind, not old, is written -/
theorem Dat.grown {w w' : World} {B0 g : Nat} {T : TypeId} {A : Option Addr} {bs : List UInt8} {cs : Array Value} {fr : Nat × Nat} (h : Dat w B0 A bs) (hg : w.grownBy w' (some g)) (hB : B0 ≤ g) (hk : w.heap[g]? = some (.cells cs T fr)) (hT : T ≠ 5) : Dat w' B0 A bs := by
  have hne : 0 < bs.length → ∀ a, A = some a → a.block ≠ g := fun hn a ha => by
    rcases h.2 hn a ha with hlt | ⟨cur, fr, hh⟩
    · omega
    · rintro rfl
      rw [hk] at hh
      injection hh with hh
      injection hh with _ ht
      exact hT ht
  refine ⟨⟨h.1.1, fun hn => ?_⟩, fun hn a ha => ?_⟩
  · obtain ⟨b, off, e, hlt, hc⟩ := h.1.2 hn
    have := hne hn _ e
    exact ⟨b, off, e, Nat.lt_of_lt_of_le hlt hg.size, fun j hj => (World.cell?_of_block (hg.block b hlt (fun e2 => this (by injection e2)))).trans (hc j hj)⟩
  · rcases h.2 hn a ha with hlt | ⟨cur, fr, hh⟩
    · exact .inl hlt
    · exact .inr ⟨cur, fr, (hg.block _ (Array.getElem?_eq_some_iff.1 hh).1 (fun e2 => hne hn a ha (by injection e2))).trans hh⟩
theorem quiet_row {P : Program} {o : Oper} {a : Act} {w : World} {C : World → Prop} (ty : TypeId) (x : Operand) (ho : o.op = .load ty x)
    (g : Nat) (hx : a.eval x = .pointer (some ⟨g, 0, none⟩)) (t : TypeId) (cs : Array Value) (d : TypeDesc) (hg : Blk w g t cs)
    (hu : P.underlying ty = some d) (hd : d.isRow = true) (hi : (P.info? ty).map (·.size) = some cs.size) : o.quietAt P a C w (.agg cs) := by
  unfold Oper.quietAt execOp
  simp only [ho, hx, Instr.loadAt, Instr.sureAddr, Sem.run_bind, Sem.run_pure, Result.andThen_ok, run_loadVar_row w g t ty cs (0, 0) d hg hu (by cases d <;> simp_all [TypeDesc.isRow]) hi]
  exact ⟨rfl, rfl⟩
def NextRet (w : World) (B0 : Nat) (r : Gr.Stp × Nat × Nat) (e : Ending) (w' : World) : Prop :=
  ∃ A c, e = .returned (.tuple #[.agg #[.int .i64 r.1.k, .int .i64 r.1.f, .int .i64 r.1.l, .slice A r.1.d.length c], .int .i64 (r.2.1 : Int), .int .i64 (r.2.2 : Int)]) ∧ Dat w' B0 A r.1.d ∧ r.1.d.length ≤ c ∧ Below w.heap.size w w'
theorem zeroS : (Tryd.prog.info? 68).map (fun i => (i.zero, i.size)) = some (some (.agg #[.int .i64 0, .int .i64 0, .int .i64 0, .slice none 0 0]), 4) := by kernel_rfl

set_option maxRecDepth 100000 in
set_option maxHeartbeats 4000000 in
theorem next_any (A : Option Addr) (n c B0 : Nat) (b : List UInt8) (w : World) (hb : BS w B0 A n b) (hB : B0 ≤ w.heap.size) (hc : n ≤ c) (hn : n ≤ 140737488355328) :
    Calls Tryd.prog 95 #[.slice A n c] w (NextRet w B0 (Gr.nextP b)) := by
  obtain ⟨hz, hs⟩ := Go.zero_of_info zeroS
  have hl := hb.1
  have HL := Lib.hid (And.intro hl hs)
  have hmf : ∀ (fn : Fn) (first cap : Array Value) (w : World), (Instr.makeFunc fn first cap).run Tryd.prog w = .ok (.func fn first cap) w := fun _ _ _ _ => rfl
  obtain ⟨X, hX⟩ : ∃ X, X = Gr.nextP b := ⟨_, rfl⟩
  rw [← hX]
  have HX := Lib.hid hX
  clear hX hl hs
  go_enter Tryd.func95, Tryd.ntmps95
  go_wp2_with fail
  have hS0 : Blk (w.alloc (.cells #[.int .i64 0, .int .i64 0, .int .i64 0, .slice none 0 0] 68)) w.heap.size 68 #[.int .i64 0, .int .i64 0, .int .i64 0, .slice none 0 0] := Blk.new _ _ _
  have hb0 : Below w.heap.size w (w.alloc (.cells #[.int .i64 0, .int .i64 0, .int .i64 0, .slice none 0 0] 68)) := (Below.refl _ _).alloc (Nat.le_refl _) _
  generalize (w.alloc (.cells #[.int .i64 0, .int .i64 0, .int .i64 0, .slice none 0 0] 68)) = w0 at hS0 hb0 ⊢
  have hS0l := hS0.lt
  have hB0 : B0 ≤ w0.heap.size := Nat.le_trans hB hb0.size
  refine (eopen_any A n c B0 b w0 (hb.below (hb0.mono hB)) hB0 hc).mono ?_
  rintro e w1 ⟨g, rfl, hg, he1, hb1⟩
  have hS1 := hS0.stay hb1
  have hbw1 := hb0.trans (hb1.mono hb0.size)
  have hgl := he1.lt
  go_wp2_with fail
  have hbx0 : ∀ V, Blk (w1.alloc (.cells #[V] 150)) w1.heap.size 150 #[V] := fun V => Blk.new _ _ _
  have hal : ∀ o, Below w1.heap.size w1 (w1.alloc o) := fun o => (Below.refl _ _).alloc (Nat.le_refl _) _
  have hbx3 := hbx0 (.pointer (some ⟨g, 0, none⟩))
  have he3 := he1.below (hal (.cells #[.pointer (some ⟨g, 0, none⟩)] 150))
  have hS3 := hS1.stay (hal (.cells #[.pointer (some ⟨g, 0, none⟩)] 150))
  have hbw3 := hbw1.trans ((hal (.cells #[.pointer (some ⟨g, 0, none⟩)] 150)).mono hbw1.size)
  generalize (w1.alloc (.cells #[.pointer (some ⟨g, 0, none⟩)] 150)) = w3 at hbx3 he3 hS3 hbw3 ⊢
  obtain ⟨bx, hbx⟩ : ∃ bx, bx = w1.heap.size := ⟨_, rfl⟩
  rw [← hbx] at hbx3 ⊢
  have hgs : w.heap.size < g := by omega
  have hgx : bx ≠ g := by omega
  have hsx : w.heap.size < bx := by omega
  clear hbx0 hal hS0 hb0 hS1 hb1 hbw1 hgl he1 hS0l hbx hB0 hg
  have hbl : b.length ≤ 140737488355328 := by rw [HL.out.1]; exact hn
  obtain ⟨r1, hr1⟩ : ∃ r1, Gr.numP 2 b 0 = r1 := ⟨_, rfl⟩
  have hk2 := Gr.numP_le 2 b 0
  have hl1 := Gr.numP_len 2 b 0
  refine (number_any g B0 bx b 0 2 (by omega) (by omega) w3 he3 (hbx3.cell 0) hgx).mono ?_
  rw [hr1] at hk2 hl1 ⊢
  have HR1 := Lib.hid hr1
  clear hr1
  obtain ⟨k, b1, f1⟩ := r1
  rintro e w4 ⟨rfl, he4, hg4⟩
  simp only at he4 hk2 hl1 ⊢
  have hS4 := hS3.grown hg4 (by intro e; injection e; omega)
  have hbx4 := hbx3.grown hg4 (by intro e; injection e with e; exact hgx e)
  have hbw4 := hbw3.grown hg4 hbw3.size (fun k hk => by injection hk; omega)
  clear hS3 hbx3 hbw3 he3 hg4
  have c0 := hS4.cell 0
  simp at c0
  have f0 := hS4.frozen 0
  have hsl := hS4.lt
  have hcase : k = 0 ∨ k = 1 ∨ k = 2 := by omega
  have hbx5 := hbx4.far (p := ⟨w.heap.size, 0, none⟩) (by show bx ≠ w.heap.size; omega) (.int .i64 (k : Int))
  have hg5 : w4.grownBy (w4.setCell ⟨w.heap.size, 0, none⟩ (.int .i64 (k : Int))) (some w.heap.size) := only_setCell (World.grownBy.refl _ _) (.inl rfl) _
  have hS5 := hS4.set_ 0 (.int .i64 (k : Int))
  have he5 := he4.grown hg5 (by omega) hB
  have hbw5 := hbw4.setCell (p := ⟨w.heap.size, 0, none⟩) (Nat.le_refl _) (.int .i64 (k : Int))
  simp at hS5
  rcases hcase with rfl | rfl | rfl
  · have hf1 := Gr.numP_fault (by rw [HR1.out])
    rw [HR1.out] at hf1
    simp only at hf1
    have hff : ((f1 : Int) == 0) = false := by rw [beq_eq_false_iff_ne]; omega
    have hff2 : ((f1 : Int) != 0) = true := by rw [bne_iff_ne]; omega
    have bc := hbx5.cell 0
    simp at bc hS5 he5 hbw5
    go_wp2_with fail
    generalize (w4.setCell ⟨w.heap.size, 0, none⟩ (.int .i64 0)) = w5 at hS5 he5 hbw5 bc ⊢
    refine (efault_any g B0 b1 f1 w5 he5).mono ?_
    rintro e w' ⟨rfl, rfl⟩
    go_wp2_with (refine wpList_store_blk rfl 68 (.tmp 2) (.tmp 38) rfl w.heap.size _ rfl rfl _ _ hS5 HL.out.2 rfl (by simp [Value.oneCell']) ?_; intro w6 hS6 hg6)
    have c0 := hS6.cell 0
    have c1 := hS6.cell 1
    have c2 := hS6.cell 2
    have c3 := hS6.cell 3
    simp at c0 c1 c2 c3
    have hE := HX.out.trans (Gr.nextP0 HR1.out rfl)
    subst hE
    refine bodyPost_ret (v := .tuple #[.agg #[.int .i64 0, .int .i64 0, .int .i64 0, .slice none 0 0], .int .i64 0, .int .i64 (f1 : Int)]) (by simp [results, Tryd.results95, go_sem, c0, c1, c2, c3]) rfl ?_
    exact ⟨none, 0, rfl, Dat.nil _ _ _, Nat.le_refl _, hbw5.grown hg6 hbw5.size (fun k hk => by injection hk; omega)⟩
  · simp at hS5 he5 hbw5 hbx5
    have bc := hbx5.cell 0
    simp at bc
    obtain ⟨r2, hr2⟩ : ∃ r2, Gr.enum 4096 b1 f1 = r2 := ⟨_, rfl⟩
    have hl2 := Gr.enum_len 4096 b1 f1
    have hi2 := fun w' h' => eint_any g B0 b1 f1 4096 (by omega) (by omega) w' h'
    rw [hr2] at hl2 hi2
    obtain ⟨fr, b2, f2⟩ := r2
    obtain ⟨r3, hr3⟩ : ∃ r3, Gr.numP 4096 b2 f2 = r3 := ⟨_, rfl⟩
    have hl3 := Gr.numP_len 4096 b2 f2
    have hi3 := fun w' bx h' => number_any g B0 bx b2 f2 4096 (by omega) (by simp only at hl2; omega) w' h'
    rw [hr3] at hl3 hi3
    obtain ⟨ln, b3, f3⟩ := r3
    simp only at hl2 hl3
    have HR2 := Lib.hid (And.intro hr2 hr3)
    have HI := Lib.hid (And.intro hi2 hi3)
    clear hr2 hr3 hi2 hi3
    go_wp2_with fail
    generalize (w4.setCell ⟨w.heap.size, 0, none⟩ (.int .i64 1)) = w5 at hS5 he5 hbw5 bc hbx5 ⊢
    refine (HI.out.1 w5 he5).mono ?_
    rintro e w6 ⟨rfl, he6, hg6⟩
    simp only at he6 ⊢
    have hS6 := hS5.grown hg6 (by intro e; injection e; omega)
    have hbx6 := hbx5.grown hg6 (by intro e; injection e with e; exact hgx e)
    have hbw6 := hbw5.grown hg6 hbw5.size (fun k hk => by injection hk; omega)
    have c1 := hS6.cell 1
    simp at c1
    have f1' := hS6.frozen 1
    have hbx7 := hbx6.far (p := ⟨w.heap.size, 1, none⟩) (by show bx ≠ w.heap.size; omega) (.int .i64 (fr : Int))
    have hg7 : w6.grownBy (w6.setCell ⟨w.heap.size, 1, none⟩ (.int .i64 (fr : Int))) (some w.heap.size) := only_setCell (World.grownBy.refl _ _) (.inl rfl) _
    have hS7 := hS6.set_ 1 (.int .i64 (fr : Int))
    have he7 := he6.grown hg7 (by omega) hB
    have hbw7 := hbw6.setCell (p := ⟨w.heap.size, 1, none⟩) (Nat.le_refl _) (.int .i64 (fr : Int))
    simp at hS7
    clear bc
    go_wp2_with fail
    generalize (w6.setCell ⟨w.heap.size, 1, none⟩ (.int .i64 (fr : Int))) = w7 at hS7 he7 hbw7 hbx7 ⊢
    clear hS5 he5 hbw5 hbx5 hS6 hbx6 hbw6 he6 hg6 hg7 c1 f1' hS4 hbx4 hbw4 he4 c0 f0 hsl
    refine (HI.out.2 w7 bx he7 (hbx7.cell 0) hgx).mono ?_
    rintro e w6 ⟨rfl, he6, hg6⟩
    simp only at he6 ⊢
    have hS6 := hS7.grown hg6 (by intro e; injection e; omega)
    have hbx6 := hbx7.grown hg6 (by intro e; injection e with e; exact hgx e)
    have hbw6 := hbw7.grown hg6 hbw7.size (fun k hk => by injection hk; omega)
    have c2 := hS6.cell 2
    simp at c2
    have f2' := hS6.frozen 2
    have hbx8 := hbx6.far (p := ⟨w.heap.size, 2, none⟩) (by show bx ≠ w.heap.size; omega) (.int .i64 (ln : Int))
    have hg7 : w6.grownBy (w6.setCell ⟨w.heap.size, 2, none⟩ (.int .i64 (ln : Int))) (some w.heap.size) := only_setCell (World.grownBy.refl _ _) (.inl rfl) _
    have hS8 := hS6.set_ 2 (.int .i64 (ln : Int))
    have he8 := he6.grown hg7 (by omega) hB
    have hbw8 := hbw6.setCell (p := ⟨w.heap.size, 2, none⟩) (Nat.le_refl _) (.int .i64 (ln : Int))
    have bc8 := hbx8.cell 0
    simp at hS8 bc8
    have hln := HL.out.1
    have hlx : b3.length ≤ n := by omega
    clear hln
    go_wp2_with fail
    generalize (w6.setCell ⟨w.heap.size, 2, none⟩ (.int .i64 (ln : Int))) = w8 at hS8 he8 hbw8 hbx8 bc8 ⊢
    clear hS7 he7 hbw7 hbx7 hS6 hbx6 hbw6 he6 hg6 hg7 c2 f2'
    by_cases hf3 : f3 = 0
    · have hff : ((f3 : Int) == 0) = true := by rw [beq_iff_eq]; omega
      have hff2 : ((f3 : Int) != 0) = false := by rw [bne_eq_false_iff_eq]; omega
      refine (efault_any g B0 b3 f3 w8 he8).mono ?_
      rintro e w' ⟨rfl, rfl⟩
      have hl8 : (b3.length : Int) ≤ (n : Int) := by omega
      have hw8 : IntKind.i64.wrap ((n : Int) - (b3.length : Int)) = (n : Int) - (b3.length : Int) := IntWalk.i64_in _ (by omega)
      go_wp2_with fail
      have he8d : EyeW w8.drew 158 g B0 b3 f3 := he8
      have s0 := hS8.cell 0
      have s1 := hS8.cell 1
      have s2 := hS8.cell 2
      have s3 := hS8.cell 3
      have z0 := hS8.frozen 0
      have z1 := hS8.frozen 1
      have z2 := hS8.frozen 2
      have z3 := hS8.frozen 3
      simp at s0 s1 s2 s3
      have hE := HX.out.trans (Gr.nextP1 HR1.out rfl HR2.out.1 HR2.out.2)
      rw [if_neg (by simp only; omega)] at hE
      simp only at hE
      have hnn : (n : Int) - (b3.length : Int) = ((b.length - b3.length : Nat) : Int) := by rw [HL.out.1]; omega
      have HE := Lib.hid (And.intro hE hnn)
      clear hE hnn
      go_region_law (go_simp; go_at_call 121; refine (eleft_any g B0 b3 f3 _ he8d).mono ?_; rintro e' w' ⟨rfl, rfl⟩; go_simp)
      all_goals
        go_wp2_with fail
        have hE := HE.out.1
        subst hE
        refine bodyPost_ret (v := .tuple #[.agg #[.int .i64 1, .int .i64 (fr : Int), .int .i64 (ln : Int), .slice none 0 0], .int .i64 ((n : Int) - (b3.length : Int)), .int .i64 0]) (by simp [results, Tryd.results95, go_sem, s0, s1, s2, s3]) rfl ?_
        exact ⟨none, 0, by rw [HE.out.2]; rfl, Dat.nil _ _ _, Nat.le_refl _, below_drewN ((((hbw8.setCell (p := ⟨w.heap.size, 0, none⟩) (Nat.le_refl _) _).setCell (p := ⟨w.heap.size, 1, none⟩) (Nat.le_refl _) _).setCell (p := ⟨w.heap.size, 2, none⟩) (Nat.le_refl _) _).setCell (p := ⟨w.heap.size, 3, none⟩) (Nat.le_refl _) _) 1⟩
    · have hff : ((f3 : Int) == 0) = false := by rw [beq_eq_false_iff_ne]; omega
      have hff2 : ((f3 : Int) != 0) = true := by rw [bne_iff_ne]; omega
      refine (efault_any g B0 b3 f3 w8 he8).mono ?_
      rintro e w' ⟨rfl, rfl⟩
      go_wp2_with (refine wpList_store_blk rfl 68 (.tmp 2) (.tmp 38) rfl w.heap.size _ rfl rfl _ _ hS8 HL.out.2 rfl (by simp [Value.oneCell']) ?_; intro w6 hS6 hg6)
      have c0 := hS6.cell 0
      have c1 := hS6.cell 1
      have c2 := hS6.cell 2
      have c3 := hS6.cell 3
      simp at c0 c1 c2 c3
      have hE := HX.out.trans (Gr.nextP1 HR1.out rfl HR2.out.1 HR2.out.2)
      rw [if_pos (by simp only; omega)] at hE
      simp only at hE
      subst hE
      refine bodyPost_ret (v := .tuple #[.agg #[.int .i64 0, .int .i64 0, .int .i64 0, .slice none 0 0], .int .i64 0, .int .i64 (f3 : Int)]) (by simp [results, Tryd.results95, go_sem, c0, c1, c2, c3]) rfl ?_
      exact ⟨none, 0, rfl, Dat.nil _ _ _, Nat.le_refl _, hbw8.grown hg6 hbw8.size (fun k hk => by injection hk; omega)⟩
  · simp at hS5 he5 hbw5 hbx5
    have bc := hbx5.cell 0
    simp at bc
    obtain ⟨r2, hr2⟩ : ∃ r2, Gr.etext 128 b1 f1 = r2 := ⟨_, rfl⟩
    have hl2 := Gr.etext_left 128 b1 f1
    have hd2 := Gr.etext_len 128 b1 f1
    have hi2 := fun w' h' => etext_any g B0 b1 f1 128 (by omega) (by omega) w' h'
    rw [hr2] at hl2 hd2 hi2
    obtain ⟨d, b2, f2⟩ := r2
    obtain ⟨x, hx⟩ : ∃ x, (if d.length = 0 then Gr.efail 2 b2 f2 else (b2, f2)) = x := ⟨_, rfl⟩
    have hl4 : x.1.length ≤ b2.length := by
      rw [← hx]; split
      · exact Gr.efail_len _ _ _
      · exact Nat.le_refl _
    have hi3 : ∀ w', EyeW w' 158 g B0 b2 f2 → Calls Tryd.prog 117 #[.pointer (some ⟨g, 0, none⟩), .int .i64 (d.length : Int)] w' (IntRet w' 158 g B0 (d.length, x)) := fun w' h' => by
      have h1 := some_any g B0 b2 f2 d.length w' h'
      have h2 : (if d.length = 0 then (0, Gr.efail 2 b2 f2) else (d.length, b2, f2)) = (d.length, x) := by
        rw [← hx]; split
        · rename_i h0; rw [h0]
        · rfl
      rw [h2] at h1; exact h1
    obtain ⟨b4, f4⟩ := x
    simp only at hl2 hl4 hd2
    have HR2 := Lib.hid (And.intro hr2 hx)
    have HI := Lib.hid (And.intro hi2 hi3)
    clear hr2 hi2 hi3 hx
    go_wp2_with fail
    generalize (w4.setCell ⟨w.heap.size, 0, none⟩ (.int .i64 2)) = w5 at hS5 he5 hbw5 bc hbx5 ⊢
    refine (HI.out.1 w5 he5).mono ?_
    rintro e w6 ⟨A3, c3, rfl, hown6, he6, hg6⟩
    simp only at he6 hown6 ⊢
    have hcd := hown6.le
    have hD6 : Dat w6 B0 A3 d := Dat.own hown6
    have hS6 := hS5.grown hg6 (by intro e; injection e; omega)
    have hbx6 := hbx5.grown hg6 (by intro e; injection e with e; exact hgx e)
    have hbw6 := hbw5.grown hg6 hbw5.size (fun k hk => by injection hk; omega)
    have c3' := hS6.cell 3
    simp at c3'
    have f3' := hS6.frozen 3
    have hbx7 := hbx6.far (p := ⟨w.heap.size, 3, none⟩) (by show bx ≠ w.heap.size; omega) (.slice A3 d.length c3)
    have hg7 : w6.grownBy (w6.setCell ⟨w.heap.size, 3, none⟩ (.slice A3 d.length c3)) (some w.heap.size) := only_setCell (World.grownBy.refl _ _) (.inl rfl) _
    have hS7 := hS6.set_ 3 (.slice A3 d.length c3)
    have he7 := he6.grown hg7 (by omega) hB
    have hD7 := hD6.grown hg7 hB hS6 (by decide)
    have hbw7 := hbw6.setCell (p := ⟨w.heap.size, 3, none⟩) (Nat.le_refl _) (.slice A3 d.length c3)
    have bc7 := hbx7.cell 0
    simp at hS7 bc7
    clear bc
    go_wp2_with fail
    generalize (w6.setCell ⟨w.heap.size, 3, none⟩ (.slice A3 d.length c3)) = w7 at hS7 he7 hbw7 hbx7 hD7 bc7 ⊢
    clear hS5 he5 hbw5 hbx5 hS6 hbx6 hbw6 he6 hg6 hg7 c3' f3' hS4 hbx4 hbw4 he4 c0 f0 hsl hD6 hown6
    refine (HI.out.2 w7 he7).mono ?_
    rintro e w6 ⟨rfl, he6, hg6⟩
    simp only at he6 ⊢
    obtain ⟨Ae, ne, ce, hke, _⟩ := id he7
    have hD6 := hD7.grown hg6 (by omega) hke (by decide)
    clear hke
    have hS6 := hS7.grown hg6 (by intro e; injection e; omega)
    have hbx6 := hbx7.grown hg6 (by intro e; injection e with e; exact hgx e)
    have hbw6 := hbw7.grown hg6 hbw7.size (fun k hk => by injection hk; omega)
    have c2 := hS6.cell 2
    simp at c2
    have f2' := hS6.frozen 2
    have hbx8 := hbx6.far (p := ⟨w.heap.size, 2, none⟩) (by show bx ≠ w.heap.size; omega) (.int .i64 (d.length : Int))
    have hg7 : w6.grownBy (w6.setCell ⟨w.heap.size, 2, none⟩ (.int .i64 (d.length : Int))) (some w.heap.size) := only_setCell (World.grownBy.refl _ _) (.inl rfl) _
    have hD8 := hD6.grown hg7 hB hS6 (by decide)
    have hS8 := hS6.set_ 2 (.int .i64 (d.length : Int))
    have he8 := he6.grown hg7 (by omega) hB
    have hbw8 := hbw6.setCell (p := ⟨w.heap.size, 2, none⟩) (Nat.le_refl _) (.int .i64 (d.length : Int))
    have bc8 := hbx8.cell 0
    simp at hS8 bc8
    have hln := HL.out.1
    have hlx : b4.length ≤ n := by omega
    clear hln
    go_wp2_with fail
    generalize (w6.setCell ⟨w.heap.size, 2, none⟩ (.int .i64 (d.length : Int))) = w8 at hS8 he8 hbw8 hbx8 bc8 hD8 ⊢
    clear hS7 he7 hbw7 hbx7 hS6 hbx6 hbw6 he6 hg6 hg7 c2 f2' bc7
    by_cases hf4 : f4 = 0
    · have hff : ((f4 : Int) == 0) = true := by rw [beq_iff_eq]; omega
      have hff2 : ((f4 : Int) != 0) = false := by rw [bne_eq_false_iff_eq]; omega
      refine (efault_any g B0 b4 f4 w8 he8).mono ?_
      rintro e w' ⟨rfl, rfl⟩
      have hl8 : (b4.length : Int) ≤ (n : Int) := by omega
      have hw8 : IntKind.i64.wrap ((n : Int) - (b4.length : Int)) = (n : Int) - (b4.length : Int) := IntWalk.i64_in _ (by omega)
      go_wp2_with fail
      have he8d : EyeW w8.drew 158 g B0 b4 f4 := he8
      have s0 := hS8.cell 0
      have s1 := hS8.cell 1
      have s2 := hS8.cell 2
      have s3 := hS8.cell 3
      have z0 := hS8.frozen 0
      have z1 := hS8.frozen 1
      have z2 := hS8.frozen 2
      have z3 := hS8.frozen 3
      simp at s0 s1 s2 s3
      have hE := HX.out.trans (Gr.nextP2 HR1.out rfl HR2.out.1 HR2.out.2)
      rw [if_neg (by simp only; omega)] at hE
      simp only at hE
      have hnn : (n : Int) - (b4.length : Int) = ((b.length - b4.length : Nat) : Int) := by rw [HL.out.1]; omega
      have HE := Lib.hid (And.intro hE hnn)
      clear hE hnn
      go_region_law (go_simp; go_at_call 121; refine (eleft_any g B0 b4 f4 _ he8d).mono ?_; rintro e' w' ⟨rfl, rfl⟩; go_simp)
      all_goals
        go_wp2_with fail
        have hE := HE.out.1
        subst hE
        refine bodyPost_ret (v := .tuple #[.agg #[.int .i64 2, .int .i64 0, .int .i64 (d.length : Int), .slice A3 d.length c3], .int .i64 ((n : Int) - (b4.length : Int)), .int .i64 0]) (by simp [results, Tryd.results95, go_sem, s0, s1, s2, s3]) rfl ?_
        have hgx8 := only_drewN (only_setCell (only_setCell (only_setCell (only_setCell (World.grownBy.refl w8 (some w.heap.size)) (p := ⟨w.heap.size, 0, none⟩) (.inl rfl) (.int .i64 2)) (p := ⟨w.heap.size, 1, none⟩) (.inl rfl) (.int .i64 0)) (p := ⟨w.heap.size, 2, none⟩) (.inl rfl) (.int .i64 (d.length : Int))) (p := ⟨w.heap.size, 3, none⟩) (.inl rfl) (.slice A3 d.length c3)) 1
        exact ⟨A3, c3, by rw [HE.out.2]; rfl, hD8.grown hgx8 hB hS8 (by decide), hcd, below_drewN ((((hbw8.setCell (p := ⟨w.heap.size, 0, none⟩) (Nat.le_refl _) _).setCell (p := ⟨w.heap.size, 1, none⟩) (Nat.le_refl _) _).setCell (p := ⟨w.heap.size, 2, none⟩) (Nat.le_refl _) _).setCell (p := ⟨w.heap.size, 3, none⟩) (Nat.le_refl _) _) 1⟩
    · have hff : ((f4 : Int) == 0) = false := by rw [beq_eq_false_iff_ne]; omega
      have hff2 : ((f4 : Int) != 0) = true := by rw [bne_iff_ne]; omega
      refine (efault_any g B0 b4 f4 w8 he8).mono ?_
      rintro e w' ⟨rfl, rfl⟩
      go_wp2_with (refine wpList_store_blk rfl 68 (.tmp 2) (.tmp 38) rfl w.heap.size _ rfl rfl _ _ hS8 HL.out.2 rfl (by simp [Value.oneCell']) ?_; intro w6 hS6 hg6)
      have c0 := hS6.cell 0
      have c1 := hS6.cell 1
      have c2 := hS6.cell 2
      have c3 := hS6.cell 3
      simp at c0 c1 c2 c3
      have hE := HX.out.trans (Gr.nextP2 HR1.out rfl HR2.out.1 HR2.out.2)
      rw [if_pos (by simp only; omega)] at hE
      simp only at hE
      subst hE
      refine bodyPost_ret (v := .tuple #[.agg #[.int .i64 0, .int .i64 0, .int .i64 0, .slice none 0 0], .int .i64 0, .int .i64 (f4 : Int)]) (by simp [results, Tryd.results95, go_sem, c0, c1, c2, c3]) rfl ?_
      exact ⟨none, 0, rfl, Dat.nil _ _ _, Nat.le_refl _, hbw8.grown hg6 hbw8.size (fun k hk => by injection hk; omega)⟩
end Go.Proofs.YtmnanbcinfdbaaaDoor
end
