/- The walk of msg.rows; conditions: none beyond its hypotheses. -/
import Derived.Test.YthhhiiagppckhaaGreatDoorMgMs2
import Derived.Deep.RegionLaw
set_option linter.unusedSimpArgs false
set_option linter.unusedVariables false
section
namespace Go.Proofs.YthhhiiagppckhaaGreatDoor
open Go.RowKit Go.Proofs.U
set_option linter.unusedVariables false

theorem step_store_blk {P : Program} {w : World} {ops : Array Oper} {o : Oper} {a : Act} {K : Act → World → Prop} {Q : Exit → Act → World → Prop} {E : Prop} (hg : o.guard = none) (ty : TypeId) (x y : Operand) (ho : o.op = .store ty x y)
    (g : Nat) (cells : Array Value) (hx : a.eval x = .pointer (some ⟨g, 0, none⟩)) (hy : a.eval y = .agg cells)
    (t : TypeId) (old : Array Value) (hb : Blk w g t old) (hi : (P.info? ty).map (·.size) = some cells.size)
    (hold : old.size = cells.size) (h1 : cells.all (·.oneCell') = true)
    (h : ∀ w', Blk w' g t cells → w.grownBy w' (some g) → K (a.put o.dst undef) w') : if Region.wanted o (yielded ops a.tmps) = true then Oper.wp P o a w K Q else E := by
  have hw : Region.wanted o (yielded ops a.tmps) = true := by simp [Region.wanted, hg]
  rw [if_pos hw]
  exact wp_store_row ty x y ho g cells hx hy t old hb hi hold h1 (h _ (setRow_heap w g old _ t _ hb) (grownBy_setRow w g _))
theorem only_off {w a b : World} {g q : Nat} (h : w.grownBy a (some g)) (hk : a.grownBy b (some q)) (hq : w.heap.size ≤ q) : w.grownBy b (some g) :=
  ⟨hk.os.trans h.os, hk.tape.trans h.tape, hk.output.trans h.output, Nat.le_trans h.size hk.size, fun k hlt hne => (hk.block k (Nat.lt_of_lt_of_le hlt h.size) (fun e => by injection e with e; omega)).trans (h.block k hlt hne)⟩
theorem alloc_b (w : World) (o : Obj) : Below w.heap.size w (w.alloc o) := (Below.refl _ _).alloc (Nat.le_refl _) _
def rw0 (d : List UInt8) (q : Int) : Array Value := #[.string (strOf d), .int .i64 q, .int .u64 0, .int .u64 0, .int .i64 0]
def rz : Array Value := #[.string ⟨#[]⟩, .int .i64 0, .int .u64 0, .int .u64 0, .int .i64 0]
theorem rz_facts {w : World} {g : Nat} {T : TypeId} (h : Blk w g T rz) : w.cell? ⟨g, 0, none⟩ = some (.string ⟨#[]⟩) ∧ w.cell? ⟨g, 1, none⟩ = some (.int .i64 0) ∧ w.cell? ⟨g, 2, none⟩ = some (.int .u64 0) ∧ w.cell? ⟨g, 3, none⟩ = some (.int .u64 0) ∧ w.cell? ⟨g, 4, none⟩ = some (.int .i64 0) ∧
    w.frozen? ⟨g, 0, none⟩ = false ∧ w.frozen? ⟨g, 1, none⟩ = false ∧ w.frozen? ⟨g, 2, none⟩ = false ∧ w.frozen? ⟨g, 3, none⟩ = false ∧ w.frozen? ⟨g, 4, none⟩ = false :=
  ⟨h.cell 0, h.cell 1, h.cell 2, h.cell 3, h.cell 4, h.frozen 0, h.frozen 1, h.frozen 2, h.frozen 3, h.frozen 4⟩
theorem str_of {w : World} {B0 : Nat} {A : Option Addr} {d : List UInt8} (h : Dat w B0 A d) (c : Nat) : (convert 24 9 (.slice A d.length c)).run Tryz.prog w = .ok (.string (strOf d)) w :=
  run_str h.1 24 5 9 Tryz.underlying24 Tryz.underlying5 Tryz.underlying9 c
theorem infoR5 : (Tryz.prog.info? 52).map (·.size) = some 5 := by kernel_rfl
/-- a row was laid in a new block; the eye went on -/
def RN (wo : World) (g B0 : Nat) (T : TypeId) (b4 : List UInt8) (f4 qb : Nat) (d : List UInt8) (q : Int) (W : World) : Prop :=
  Blk W qb 52 (rw0 d q) ∧ EyeW W T g B0 b4 f4 ∧ wo.grownBy W (some g) ∧ g < qb ∧ wo.heap.size ≤ qb
def rwOf (d : List UInt8) (q v1 v2 v3 : Nat) : Ms.Rw := ⟨d, q, v1, v2, v3⟩
theorem new_cells (W : World) (vs : List Value) (t : TypeId) (N : Nat) (hN : W.heap.size = N) : ∀ j u, vs[j]? = some u → (W.alloc (.cells vs.toArray t)).cell? ((⟨N, 0, none⟩ : Addr).add j) = some u := by
  subst hN
  intro j u hu
  rw [addr_add, Nat.zero_add, (Blk.new W t vs.toArray).cell j]
  rw [← List.getElem?_toArray] at hu
  exact hu
theorem set_size (w : World) (p : Addr) (v : Value) : (w.setCell p v).heap.size = w.heap.size := by simp
theorem RwO.grown {w w' : World} {base n c g : Nat} {A : Option Addr} {l : List Ms.Rw} (h : RwO w base A n c l) (hg : w.grownBy w' (some g)) {T : TypeId} {cs : Array Value} (hk : Blk w g T cs) (hT : T ≠ 52) : RwO w' base A n c l :=
  ⟨World.ownsRow.kept h.1 hg (.inr fun e => hk.row_ne h.1 hT e.symm), h.2⟩
theorem drow_parts {d b3 b4 b5 b6 b7 : List UInt8} {f3 f4 f5 f6 f7 q v1 v2 v3 : Nat} {b2 : List UInt8} (h1 : (d, b3, f3) = Gr.etext 96 b2 0) (h2 : (q, b4, f4) = Gr.enum 2 b3 f3) (h3 : (v1, b5, f5) = Gr.enum 18446744073709551615 b4 f4) (h4 : (v2, b6, f6) = Gr.enum 18446744073709551615 b5 f5) (h5 : (v3, b7, f7) = Gr.enum 4096 b6 f6) :
    Ms.drow b2 0 = (rwOf d q v1 v2 v3, b7, f7) := by
  unfold Ms.drow Ms.MAX
  simp only [← h1, ← h2, ← h3, ← h4, ← h5]
  rfl
theorem eye_row {w w' : World} {T : TypeId} {g B0 base n c : Nat} {A : Option Addr} {vs : List Value} {b : List UInt8} {f : Nat} (h : EyeW w T g B0 b f) (hown : w.ownsRow base 52 5 (.slice A n c) n vs) (hg : w.grownBy w' (Value.slice A n c).ownBlock) (hB : B0 ≤ base) (hT : T ≠ 52) : EyeW w' T g B0 b f := by
  obtain ⟨A', n', c', h1, h2, h3, h4⟩ := h
  exact ⟨A', n', c', h1.grown hg (h1.row_ne hown hT), h2.grown hg (by have := h1.lt; omega) (fun k hk => Nat.le_trans hB (World.ownsRow.lt hown k hk).1), h3, h4⟩
theorem only_row {w a b : World} {g base n c : Nat} {A : Option Addr} {vs : List Value} (h : w.grownBy a (some g)) (hown : a.ownsRow base 52 5 (.slice A n c) n vs) (hg : a.grownBy b (Value.slice A n c).ownBlock) (hB : w.heap.size ≤ base) : w.grownBy b (some g) :=
  ⟨hg.os.trans h.os, hg.tape.trans h.tape, hg.output.trans h.output, Nat.le_trans h.size hg.size, fun k hlt hne => (hg.block k (Nat.lt_of_lt_of_le hlt h.size) (fun e => by have := (World.ownsRow.lt hown k e.symm).1; omega)).trans (h.block k hlt hne)⟩
theorem rn1 {wo w2 w4 : World} {g B0 : Nat} {T : TypeId} {b4 : List UInt8} {f4 : Nat} (hg3 : wo.drew.grownBy w2 (some g)) (hg4 : w2.grownBy w4 (some g)) (he : EyeW w4 T g B0 b4 f4) (d : List UInt8) (q : Int) :
    RN wo g B0 T b4 f4 w4.heap.size d q (w4.alloc (.cells #[.string (strOf d), .int .i64 q, .int .u64 0, .int .u64 0, .int .i64 0] 52)) := by
  have hg : wo.grownBy w4 (some g) := only_trans (only_trans (only_drew (World.grownBy.refl _ _)) hg3) hg4
  exact ⟨Blk.new _ _ _, he.below (alloc_b _ _), only_below hg (alloc_b _ _), he.lt, hg.size⟩
theorem set5 {w : World} {qb : Nat} (h : Blk w qb 52 rz) (d : List UInt8) (q : Int) (W : World) (hW : W = (((((w.setCell ⟨qb, 0, none⟩ (.string (strOf d))).setCell ⟨qb, 1, none⟩ (.int .i64 q)).setCell ⟨qb, 2, none⟩ (.int .u64 0)).setCell ⟨qb, 3, none⟩ (.int .u64 0)).setCell ⟨qb, 4, none⟩ (.int .i64 0))) :
    Blk W qb 52 (rw0 d q) ∧ w.grownBy W (some qb) := by
  subst hW
  have h0 := only_setCell (World.grownBy.refl w (some qb)) (p := ⟨qb, 0, none⟩) (.inl rfl) (.string (strOf d))
  have h1 := only_setCell h0 (p := ⟨qb, 1, none⟩) (.inl rfl) (.int .i64 q)
  have h2 := only_setCell h1 (p := ⟨qb, 2, none⟩) (.inl rfl) (.int .u64 0)
  have h3 := only_setCell h2 (p := ⟨qb, 3, none⟩) (.inl rfl) (.int .u64 0)
  have h4 := only_setCell h3 (p := ⟨qb, 4, none⟩) (.inl rfl) (.int .i64 0)
  exact ⟨((((h.set_ 0 _).set_ 1 _).set_ 2 _).set_ 3 _).set_ 4 _, h4⟩
theorem rn2 {wo w2 w4 : World} {g B0 : Nat} {T : TypeId} {b3 b4 : List UInt8} {f3 f4 : Nat} (hg3 : wo.drew.grownBy w2 (some g)) (he3 : EyeW w2 T g B0 b3 f3) (hg4 : (w2.alloc (.cells rz 52)).grownBy w4 (some g)) (he : EyeW w4 T g B0 b4 f4) (d : List UInt8) (q : Int) :
    RN wo g B0 T b4 f4 w2.heap.size d q (((((w4.setCell ⟨w2.heap.size, 0, none⟩ (.string (strOf d))).setCell ⟨w2.heap.size, 1, none⟩ (.int .i64 q)).setCell ⟨w2.heap.size, 2, none⟩ (.int .u64 0)).setCell ⟨w2.heap.size, 3, none⟩ (.int .u64 0)).setCell ⟨w2.heap.size, 4, none⟩ (.int .i64 0)) := by
  have hlt := he3.lt
  have hB : B0 ≤ g := by obtain ⟨_, _, _, _, _, _, h⟩ := he; exact h
  have h2 : wo.grownBy w2 (some g) := only_trans (only_drew (World.grownBy.refl _ _)) hg3
  have hg : wo.grownBy w4 (some g) := only_trans (only_below h2 (alloc_b _ _)) hg4
  have z : Blk w4 w2.heap.size 52 rz := (Blk.new w2 _ _).grown hg4 (by intro e; injection e with e; omega)
  obtain ⟨k1, k2⟩ := set5 z d q _ rfl
  exact ⟨k1, he.grown k2 (by omega) (by omega), only_off hg k2 h2.size, hlt, h2.size⟩
theorem rn3 {wo w2 w4 : World} {g B0 : Nat} {T : TypeId} {b2 b4 : List UInt8} {f2 f4 : Nat} (he2 : EyeW wo T g B0 b2 f2) (hg3 : (wo.alloc (.cells rz 52)).drew.grownBy w2 (some g)) (hg4 : w2.grownBy w4 (some g)) (he : EyeW w4 T g B0 b4 f4) (d : List UInt8) (q : Int) :
    RN wo g B0 T b4 f4 wo.heap.size d q (((((w4.setCell ⟨wo.heap.size, 0, none⟩ (.string (strOf d))).setCell ⟨wo.heap.size, 1, none⟩ (.int .i64 q)).setCell ⟨wo.heap.size, 2, none⟩ (.int .u64 0)).setCell ⟨wo.heap.size, 3, none⟩ (.int .u64 0)).setCell ⟨wo.heap.size, 4, none⟩ (.int .i64 0)) := by
  have hlt := he2.lt
  have hB : B0 ≤ g := by obtain ⟨_, _, _, _, _, _, h⟩ := he; exact h
  have h2 : wo.grownBy w2 (some g) := only_trans (only_drew (only_below (World.grownBy.refl _ _) (alloc_b _ _))) hg3
  have hg : wo.grownBy w4 (some g) := only_trans h2 hg4
  have z : Blk w4 wo.heap.size 52 rz := (((Blk.new wo _ _).drew).grown hg3 (by intro e; injection e with e; omega)).grown hg4 (by intro e; injection e with e; omega)
  obtain ⟨k1, k2⟩ := set5 z d q _ rfl
  exact ⟨k1, he.grown k2 (by omega) (by omega), only_off hg k2 (Nat.le_refl _), hlt, Nat.le_refl _⟩
def RowsRet (w : World) (T : TypeId) (g B0 : Nat) (r : List Ms.Rw × List UInt8 × Nat) (e : Ending) (w' : World) : Prop :=
  ∃ A c, e = .returned (.slice A r.1.length c) ∧ RwO w' w.heap.size A r.1.length c r.1 ∧ EyeW w' T g B0 r.2.1 r.2.2 ∧ w.grownBy w' (some g)
theorem drows_go {r : Nat} {b : List UInt8} : Ms.drows (r + 1) b 0 = ((Ms.drow b 0).1 :: (Ms.drows r (Ms.drow b 0).2.1 (Ms.drow b 0).2.2).1, (Ms.drows r (Ms.drow b 0).2.1 (Ms.drow b 0).2.2).2) := by
  rw [Ms.drows, if_pos rfl]
theorem drows_stop {r : Nat} {b : List UInt8} {f : Nat} (h : f ≠ 0) : Ms.drows r b f = ([], b, f) := by
  cases r with
  | zero => rfl
  | succ r => rw [Ms.drows, if_neg h]
/-- what is still to be read behind what is there -/
def More (R : List Ms.Rw × List UInt8 × Nat) (l : List Ms.Rw) (r : Nat) (b : List UInt8) (f : Nat) : Prop := R = (l ++ (Ms.drows r b f).1, (Ms.drows r b f).2)
theorem More.go {R : List Ms.Rw × List UInt8 × Nat} {l : List Ms.Rw} {r : Nat} {b : List UInt8} (h : More R l (r + 1) b 0) : More R (l ++ [(Ms.drow b 0).1]) r (Ms.drow b 0).2.1 (Ms.drow b 0).2.2 := by
  unfold More at h ⊢
  rw [h, drows_go]; simp
theorem More.stop {R : List Ms.Rw × List UInt8 × Nat} {l : List Ms.Rw} {r : Nat} {b : List UInt8} {f : Nat} (h : More R l r b f) (hf : f ≠ 0 ∨ r = 0) : R = (l, b, f) := by
  unfold More at h
  rcases hf with hf | rfl
  · rw [h, drows_stop hf]; simp
  · rw [h]; simp [Ms.drows]
set_option maxRecDepth 100000 in
set_option maxHeartbeats 4000000 in
theorem mrows_any (g B0 : Nat) (b : List UInt8) (f : Nat) (hm : b.length ≤ 140737488355328) (w : World) (h : EyeW w 117 g B0 b f) :
    Calls Tryz.prog 63 #[.pointer (some ⟨g, 0, none⟩)] w (RowsRet w 117 g B0 (Ms.rowsP b f)) := by
  have hB : B0 ≤ g := by obtain ⟨_, _, _, _, _, _, h⟩ := h; exact h
  have hglt := h.lt
  have hc := eint_any g B0 b f 8 (by omega) (by omega) w h
  have hle := Gr.enum_le 8 b f
  have hlen := Gr.enum_len 8 b f
  obtain ⟨R, hR⟩ : ∃ R, R = Ms.rowsP b f := ⟨_, rfl⟩
  have hM : More R [] (Gr.enum 8 b f).1 (Gr.enum 8 b f).2.1 (Gr.enum 8 b f).2.2 := by rw [hR]; rfl
  rw [← hR]
  clear hR
  obtain ⟨E, hE⟩ : ∃ E, E = Gr.enum 8 b f := ⟨_, rfl⟩
  rw [← hE] at hc hle hlen hM
  clear hE
  obtain ⟨n, b1, f1⟩ := E
  simp only at hle hlen hM
  have HM := Lib.hid hM
  clear hM
  go_enter Tryz.func63, Tryz.ntmps63
  go_wp2_with fail
  refine hc.mono ?_
  rintro e w1 ⟨rfl, he1, hg1⟩
  simp only at he1 ⊢
  have hbl : b1.length ≤ 140737488355328 := by omega
  clear hc hlen hm h
  go_wp2_with fail
  go_loopg [2, 3] n (fun r o v wr => ∃ (A : Option Addr) (c : Nat) (l : List Ms.Rw) (b2 : List UInt8) (f2 : Nat), o = .slice A l.length c ∧ v = .int .i64 (r : Int) ∧ l.length + r ≤ 8 ∧ b2.length ≤ 140737488355328 ∧ RwO wr w.heap.size A l.length c l ∧ EyeW wr 117 g B0 b2 f2 ∧ w.grownBy wr (some g) ∧ Hid (More R l r b2 f2))
  case atStart => exact ⟨none, 0, [], b1, f1, rfl, rfl, by simpa using hle, hbl, ⟨World.ownsRow_nil _ _ _ _, rfl⟩, he1, hg1, HM⟩
  case round =>
    clear he1 hg1 HM hbl hle
    obtain ⟨A, c, l, b2, f2, rfl, rfl, hlr, hbl, hrw, he, hg, HM⟩ := hrel
    obtain ⟨wo, rfl⟩ : ∃ wo : World, wo = wr := ⟨_, rfl⟩
    obtain ⟨L, hL⟩ : ∃ L, L = l.length := ⟨_, rfl⟩
    rw [← hL] at hlr hrw ⊢
    have HL := Lib.hid hL
    clear hL
    by_cases hk : gk = 0
    · subst hk
      go_wp2_with fail
      go_ret
      have hE := HM.out.stop (.inr rfl); subst hE
      refine ⟨A, c, ?_, ?_, he, hg⟩
      · rw [HL.out]; rfl
      · rw [← HL.out]; exact hrw
    · by_cases hf : f2 = 0
      · subst hf
        have i1 : (0 : Int) < (gk : Int) := by omega
        go_wp2_with (go_at_call 64; refine (efault_any g B0 b2 0 wo he).mono ?_; rintro e w' ⟨rfl, rfl⟩)
        have hT := fun w' (h' : EyeW w' 117 g B0 b2 0) => etext_any g B0 b2 0 96 (by decide) hbl w' h'
        have hTl := Gr.etext_left 96 b2 0
        obtain ⟨T, hTe⟩ : ∃ T, T = Gr.etext 96 b2 0 := ⟨_, rfl⟩
        rw [← hTe] at hT hTl
        obtain ⟨d, b3, f3⟩ := T
        simp only at hTl
        have hI := fun w' (h' : EyeW w' 117 g B0 b3 f3) => eint_any g B0 b3 f3 2 (by decide) (by omega) w' h'
        have hIl := Gr.enum_len 2 b3 f3
        obtain ⟨I, hIe⟩ : ∃ I, I = Gr.enum 2 b3 f3 := ⟨_, rfl⟩
        rw [← hIe] at hI hIl
        obtain ⟨q, b4, f4⟩ := I
        simp only at hIl
        have HC := Lib.hid (And.intro hT (And.intro hI (And.intro hTe hIe)))
        have hl4 : b4.length ≤ 140737488355328 := by omega
        clear hT hI hTe hIe hTl hIl hbl
        have hed : EyeW wo.drew 117 g B0 b2 0 := he
        go_region_law (first
          | (go_simp
             go_at_call 62
             refine (HC.out.1 _ (by first | exact he | exact hed.below (alloc_b _ _))).mono ?_
             rintro e w2 ⟨A3, c3, rfl, ho3, he3, hg3⟩
             have hd3 : Dat w2 B0 A3 d := Dat.own ho3
             have kc := str_of hd3 c3
             have kcA := fun o => str_of (hd3.kept (kept_below (alloc_b w2 o))) c3
             simp only at he3 ⊢
             go_simp)
          | (go_simp
             go_at_call 60
             refine (HC.out.2.1 _ (by first | exact he3 | exact he3.below (alloc_b _ _))).mono ?_
             rintro e w4 ⟨rfl, he4, hg4⟩
             simp only at he4 ⊢
             have ho3 : g < w2.heap.size := he3.lt
             have hd4 : Dat w4 B0 A3 d := by
               first
                 | exact hd3.kept (kept_eye hg4 hB he3 (by decide) (by decide))
                 | exact (hd3.kept (kept_below (alloc_b _ _))).kept (kept_eye hg4 hB (he3.below (alloc_b _ _)) (by decide) (by decide))
             have kc4 := str_of hd4 c3
             have kc4A := fun o => str_of (hd4.kept (kept_below (alloc_b w4 o))) c3
             have ho0 : g < wo.heap.size := he.lt
             first
               | (have z : Blk w4 w2.heap.size 52 rz := (Blk.new w2 _ _).grown hg4 (by intro e; injection e with e; omega)
                  obtain ⟨z0, z1, z2, z3, z4, y0, y1, y2, y3, y4⟩ := rz_facts z)
               | (have z : Blk w4 wo.heap.size 52 rz := ((Blk.new wo.drew _ _).grown hg3 (by intro e; injection e with e; simp at e; omega)).grown hg4 (by intro e; injection e with e; simp at e; omega)
                  obtain ⟨z0, z1, z2, z3, z4, y0, y1, y2, y3, y4⟩ := rz_facts z)
               | skip
             go_simp))
        all_goals first
          | (have hrn := rn1 (wo := wo) hg3 hg4 he4 d (q : Int); generalize (w4.alloc (.cells #[.string (strOf d), .int .i64 (q : Int), .int .u64 0, .int .u64 0, .int .i64 0] 52)) = w5 at hrn ⊢; obtain ⟨r1, r2, r3, r4, r5⟩ := hrn; generalize w4.heap.size = qb at r1 r4 r5 ⊢)
          | (have hrn := rn2 (wo := wo) hg3 he3 hg4 he4 d (q : Int); generalize (((((w4.setCell ⟨w2.heap.size, 0, none⟩ (.string (strOf d))).setCell ⟨w2.heap.size, 1, none⟩ (.int .i64 (q : Int))).setCell ⟨w2.heap.size, 2, none⟩ (.int .u64 0)).setCell ⟨w2.heap.size, 3, none⟩ (.int .u64 0)).setCell ⟨w2.heap.size, 4, none⟩ (.int .i64 0)) = w5 at hrn ⊢; obtain ⟨r1, r2, r3, r4, r5⟩ := hrn; generalize w2.heap.size = qb at r1 r4 r5 ⊢)
          | (have hrn := rn3 (wo := wo) he hg3 hg4 he4 d (q : Int); generalize (((((w4.setCell ⟨wo.heap.size, 0, none⟩ (.string (strOf d))).setCell ⟨wo.heap.size, 1, none⟩ (.int .i64 (q : Int))).setCell ⟨wo.heap.size, 2, none⟩ (.int .u64 0)).setCell ⟨wo.heap.size, 3, none⟩ (.int .u64 0)).setCell ⟨wo.heap.size, 4, none⟩ (.int .i64 0)) = w5 at hrn ⊢; obtain ⟨r1, r2, r3, r4, r5⟩ := hrn; have r6 := r5; generalize hqq : wo.heap.size = qb at r1 r4 r6 ⊢; replace r5 : wo.heap.size ≤ qb := (Nat.le_of_eq hqq); clear r6 hqq)
        all_goals
          clear hg3 hg4 he3 he4 hd3 hd4 kc kcA kc4 kc4A
          have hqo : wo.heap.size ≤ qb := r5
          have hrwk : ∀ w', wo.grownBy w' (some g) → RwO w' w.heap.size A L c l := fun w' h' => by obtain ⟨_, _, _, hk, _⟩ := he; exact hrw.grown h' hk (by decide)
          clear r5
          have hN := enum_any g B0 b4 f4 18446744073709551615 (by decide) (by omega) w5 r2
          have hNl := Gr.enum_len 18446744073709551615 b4 f4
          obtain ⟨N, hNe⟩ : ∃ N, N = Gr.enum 18446744073709551615 b4 f4 := ⟨_, rfl⟩
          rw [← hNe] at hN hNl
          obtain ⟨v1, b5, f5⟩ := N
          simp only at hNl
          have HN1 := Lib.hid hNe
          clear hNe
          go_wp2_with fail
          refine hN.mono ?_
          rintro e w6 ⟨rfl, he6, hg6⟩
          simp only at he6 ⊢
          have hN2 := enum_any g B0 b5 f5 18446744073709551615 (by decide) (by omega) w6 he6
          have hNl2 := Gr.enum_len 18446744073709551615 b5 f5
          obtain ⟨N, hNe⟩ : ∃ N, N = Gr.enum 18446744073709551615 b5 f5 := ⟨_, rfl⟩
          rw [← hNe] at hN2 hNl2
          obtain ⟨v2, b6, f6⟩ := N
          simp only at hNl2
          have HN2 := Lib.hid hNe
          clear hNe hN
          go_wp2_with fail
          refine hN2.mono ?_
          rintro e w7 ⟨rfl, he7, hg7⟩
          simp only at he7 ⊢
          have hqg : qb ≠ g := by omega
          have hk7 := (r1.grown hg6 (by intro e; injection e with e; exact hqg e)).grown hg7 (by intro e; injection e with e; exact hqg e)
          have hgo7 := only_trans (only_trans r3 hg6) hg7
          clear hN2 he6 hg6 hg7 r1 r2 r3
          have x2 := hk7.cell 2
          have x3 := hk7.cell 3
          have y2 := hk7.frozen 2
          have y3 := hk7.frozen 3
          simp only [rw0] at x2 x3
          simp at x2 x3
          have hB5 : B0 ≤ qb := by omega
          have hk8 := (hk7.set_ 2 (.int .u64 (v1 : Int))).set_ 3 (.int .u64 (v2 : Int))
          have hg8 := only_setCell (only_setCell (World.grownBy.refl w7 (some qb)) (p := ⟨qb, 2, none⟩) (.inl rfl) (.int .u64 (v1 : Int))) (p := ⟨qb, 3, none⟩) (.inl rfl) (.int .u64 (v2 : Int))
          have he8 := he7.grown hg8 (fun e => hqg e.symm) hB5
          go_wp2_with fail
          generalize ((w7.setCell ⟨qb, 2, none⟩ (.int .u64 (v1 : Int))).setCell ⟨qb, 3, none⟩ (.int .u64 (v2 : Int))) = w8 at hk8 hg8 he8 ⊢
          have hI := eint_any g B0 b6 f6 4096 (by decide) (by omega) w8 he8
          have hNl3 := Gr.enum_len 4096 b6 f6
          obtain ⟨N, hNe⟩ : ∃ N, N = Gr.enum 4096 b6 f6 := ⟨_, rfl⟩
          rw [← hNe] at hI hNl3
          obtain ⟨v3, b7, f7⟩ := N
          simp only at hNl3
          have HN3 := Lib.hid hNe
          clear hNe x2 x3 y2 y3 hk7
          refine hI.mono ?_
          rintro e w9 ⟨rfl, he9, hg9⟩
          simp only at he9 ⊢
          have hk9 := hk8.grown hg9 (by intro e; injection e with e; exact hqg e)
          have hgo9 := only_trans (only_off hgo7 hg8 hqo) hg9
          have x4 := hk9.cell 4
          have y4 := hk9.frozen 4
          simp only [rw0] at x4
          simp at x4
          have hk10 := hk9.set_ 4 (.int .i64 (v3 : Int))
          have hg10 := only_setCell (World.grownBy.refl w9 (some qb)) (p := ⟨qb, 4, none⟩) (.inl rfl) (.int .i64 (v3 : Int))
          have he10 := he9.grown hg10 (fun e => hqg e.symm) hB5
          have hgo10 := only_off hgo9 hg10 hqo
          have hrw10 := hrwk _ hgo10
          have hrow : (((rw0 d (q : Int)).setIfInBounds 2 (.int .u64 (v1 : Int))).setIfInBounds 3 (.int .u64 (v2 : Int))).setIfInBounds 4 (.int .i64 (v3 : Int)) = (rwCells (rwOf d q v1 v2 v3)).toArray := rfl
          rw [hrow] at hk10
          have HD := Lib.hid (drow_parts HC.out.2.2.1 HC.out.2.2.2 HN1.out HN2.out HN3.out)
          have hown10 : ∀ o, ((w9.setCell ⟨qb, 4, none⟩ (.int .i64 (v3 : Int))).alloc o).ownsRow w.heap.size 52 5 (.slice A L c) L (l.flatMap rwCells) := fun o => World.ownsRow.alloc hrw10.1 o
          have hcell := new_cells (w9.setCell ⟨qb, 4, none⟩ (.int .i64 (v3 : Int))) (rwCells (rwOf d q v1 v2 v3)) 52 w9.heap.size (set_size _ _ _)
          have hone : ∀ u ∈ rwCells (rwOf d q v1 v2 v3), u.oneCell' = true := fun u hu => rwCells_one [rwOf d q v1 v2 v3] u (by simpa using hu)
          have hgw10 := only_trans hg hgo10
          have hqs : ∀ o, w.heap.size ≤ ((w9.setCell ⟨qb, 4, none⟩ (.int .i64 (v3 : Int))).alloc o).heap.size := fun o => Nat.le_trans hgw10.size (alloc_b _ o).size
          have heA := fun o => he10.below (alloc_b (w9.setCell ⟨qb, 4, none⟩ (.int .i64 (v3 : Int))) o)
          have hgA := fun o => only_below hgw10 (alloc_b (w9.setCell ⟨qb, 4, none⟩ (.int .i64 (v3 : Int))) o)
          have HA := Lib.hid (And.intro hown10 (And.intro hcell (And.intro hone (And.intro hqs (And.intro heA hgA)))))
          have hq : (L + 1) * 48 ≤ 140737488355328 := by omega
          have hq2 : L + 1 ≤ maxLen := by unfold maxLen; omega
          have hl7 : b7.length ≤ 140737488355328 := by omega
          have hk10' : Blk (w9.setCell ⟨qb, 4, none⟩ (.int .i64 (v3 : Int))) qb 52 #[.string (strOf d), .int .i64 (q : Int), .int .u64 (v1 : Int), .int .u64 (v2 : Int), .int .i64 (v3 : Int)] := hk10
          have HK10 := Lib.hid hk10'
          clear hown10 hcell hone hqs heA hgA hrw10 hrow hk9 he9 hg9 hg10 he10 hgo10 hk8 hg8 he8 hgo7 hgo9 hI hNl hNl2 hNl3 hk10 hk10'
          go_wp2_with (first
            | (refine wpList_load_blk rfl 52 (.tmp 4) rfl qb rfl 52 _ _ HK10.out Tryz.underlying52 rfl infoR5 ?_)
            | (at_builtin; refine wpList_appS (by decide) Tryz.underlying25 infoR rfl rfl (.tmp 31) (.tmp 33) rfl w.heap.size _ _ _ (l.flatMap rwCells) rfl (HA.out.1 _) ⟨w9.heap.size, 0, none⟩ 1 1 (rwCells (rwOf d q v1 v2 v3)) rfl rfl HA.out.2.1 HA.out.2.2.1 hq hq2 (HA.out.2.2.2.1 _) ?_; intro A2 c2 wz hown2 hg2 _))
          have hez := eye_row (HA.out.2.2.2.2.1 _) (HA.out.1 _) hg2 (by omega) (by decide)
          have hgz := only_row (HA.out.2.2.2.2.2 _) (HA.out.1 _) hg2 (Nat.le_refl _)
          have hM := HM.out
          obtain ⟨r, rfl⟩ : ∃ r, gk = r + 1 := ⟨gk - 1, by omega⟩
          have hM2 := hM.go
          rw [HD.out] at hM2
          go_roundg r
          case measure => omega
          case rel =>
            refine ⟨A2, c2, l ++ [rwOf d q v1 v2 v3], b7, f7, ?_, by go_num, ?_, hl7, ⟨?_, ?_⟩, hez, hgz, hM2⟩
            · rw [List.length_append, ← HL.out]; rfl
            · rw [List.length_append, ← HL.out]; simp; omega
            · rw [List.length_append, ← HL.out, List.flatMap_append]; simpa using hown2
            · rfl
      · have hff : ((f2 : Int) == 0) = false := by rw [beq_eq_false_iff_ne]; omega
        have i1 : (0 : Int) < (gk : Int) := by omega
        go_wp2_with (go_at_call 64; refine (efault_any g B0 b2 f2 wo he).mono ?_; rintro e w' ⟨rfl, rfl⟩)
        go_ret
        have hE := HM.out.stop (.inl hf); subst hE
        refine ⟨A, c, ?_, ?_, he, hg⟩
        · rw [HL.out]; rfl
        · rw [← HL.out]; exact hrw
end Go.Proofs.YthhhiiagppckhaaGreatDoor
end
