/- The walk of the document's Say of a right message; conditions: none beyond its hypotheses. The walk of LineDamage; conditions: none beyond its hypotheses. The walk of LineDamage of right messages; conditions: none beyond its hypotheses. LineDamage, of any messages; conditions: none beyond its hypotheses. -/
import Derived.Test.YthhhiiagppckhaaGreatDoorMgDcr
import Derived.Test.YthhhiiagppckhaaGreatDoorMgMpl
import Derived.Test.YthhhiiagppckhaaGreatDoorMgMw4
import Derived.Test.YthhhiiagppckhaaGreatDoorMgLn7
import Derived.Test.YthhhiiagppckhaaGreatDoorMgLn6q
set_option linter.unusedSimpArgs false
set_option linter.unusedVariables false
section
namespace Go.Proofs.YthhhiiagppckhaaGreatDoor
open Go.RowKit Go.Proofs.U
set_option linter.unusedVariables false

def l33 : Value := .agg #[.slice none 0 0, .int .i64 0, .bool false, .int .i64 0]
set_option maxRecDepth 100000 in
set_option maxHeartbeats 4000000 in
theorem rsay_any (B0 : Nat) (p : Mp) (w : World) (hv : MsgV w B0 p.m p.v) (hr : p.m.rows.length ≤ 140737488355328) (hwf : Ms.Wf p.m) (hck : Ms.check p.m = 0) :
    Calls Tryz.prog 6 #[l33, .agg p.cells.toArray] w (OwnCode 5 w (sayB p.m, 0)) := by
  have hw := fun W (hb : Below w.heap.size w W) => rwrite_any B0 p.m p.v W (hv.below hb) hr hwf
  unfold WriteRet at hw
  have hX : wrM p.m = Ms.enc p.m := by unfold wrM; rw [if_pos hck]
  have hXl := Ms.enc_len hck
  rw [hX, hck] at hw
  have hsb := (sayB_fr hck).1
  obtain ⟨SB, hSB⟩ : ∃ SB, SB = sayB p.m := ⟨_, rfl⟩
  rw [← hSB] at hsb ⊢
  obtain ⟨X, hXX⟩ : ∃ X, X = Ms.enc p.m := ⟨_, rfl⟩
  rw [← hXX] at hw hsb hXl
  obtain ⟨xl, hxl⟩ : ∃ xl, xl = X.length := ⟨_, rfl⟩
  rw [← hxl] at hw hXl
  unfold OwnCode
  simp only
  obtain ⟨sl, hsl⟩ : ∃ sl, sl = SB.length := ⟨_, rfl⟩
  rw [← hsl]
  have HSL := Lib.hid hsl
  clear hsl
  have HW := Lib.hid (And.intro hw (And.intro hsb hxl))
  clear hw hX hck hSB hXX hxl hsb
  unfold l33
  go_enter Tryz.func6, Tryz.ntmps6
  go_wp2_with (first
    | (refine wpList_load_blk rfl 27 (.tmp 3) rfl (w.heap.size + 1) rfl 27 _ _ (blk_second _ _ _ _) Tryz.underlying27 rfl infoM16 ?_))
  have hb2 := two_new w (.cells #[.slice none 0 0, .int .i64 0, .bool false, .int .i64 0] 37) (.cells p.cells.toArray 27)
  refine (HW.out.1 _ hb2).mono ?_
  rintro e w3 ⟨A3, c3, rfl, hown3, hb3⟩
  have hbw3 := hb2.trans (hb3.mono hb2.size)
  have hrw := rwrap_any A3 xl c3 X w3 hown3.bs (by omega)
  have hfw : fwrap X = (SB, 0) := by rw [HW.out.2.1, fwrap_ok X (by rw [← HW.out.2.2]; exact hXl)]
  rw [hfw] at hrw
  unfold OwnCode at hrw
  simp only at hrw
  rw [← HSL.out] at hrw
  clear hfw
  go_wp2_with fail
  refine hrw.mono ?_
  rintro e w4 ⟨A4, c4, rfl, hown4, hb4⟩
  go_wp2_with fail
  go_ret2
  exact ⟨A4, c4, rfl, World.ownsRow.mono hown4 hbw3.size, hbw3.trans (hb4.mono hbw3.size)⟩
end Go.Proofs.YthhhiiagppckhaaGreatDoor
end

section
namespace Go.Proofs.YthhhiiagppckhaaGreatDoor
open Go.RowKit Go.Proofs.U Go.Proofs.Bp
set_option linter.unusedVariables false

theorem lsb0_bsr (m : BitVec 32) (i : Nat) : lsb0 (bsr m i) = m.getLsbD i := by
  unfold lsb0 bsr; rw [BitVec.getLsbD_ushiftRight]; simp
def Yes33 (w : World) (e : Ending) (w' : World) : Prop := e = .returned (.bool true) ∧ Below w.heap.size w w'
theorem Ink.row_ne {w : World} {g : Nat} {P : List UInt8} {e : Int} {base size n c : Nat} {t : TypeId} {A : Option Addr} {vs : List Value} (h : Ink w g P e) (ho : w.ownsRow base t size (.slice A n c) n vs) (hne : 61 ≠ t) : some g ≠ (Value.slice A n c).ownBlock := by
  obtain ⟨tl, _, hb⟩ := h
  exact hb.row_ne ho hne
theorem wpList_load_blkg {P : Program} {w : World} {ops : Array Oper} {rest : List Oper} {o : Oper} {a : Act} {Q : Exit → Act → World → Prop} (hw : Region.wanted o (yielded ops a.tmps) = true) (ty : TypeId) (x : Operand) (ho : o.op = .load ty x)
    (g : Nat) (hx : a.eval x = .pointer (some ⟨g, 0, none⟩)) (t : TypeId) (cs : Array Value) (d : TypeDesc) (hg : Blk w g t cs)
    (hu : P.underlying ty = some d) (hd : d.isRow = true) (hi : (P.info? ty).map (·.size) = some cs.size)
    (h : wpList P ops Q rest (a.put o.dst (.agg cs)) w) : wpList P ops Q (o :: rest) a w :=
  wpList_step fun K hK => by rw [hw]; simp only [if_true]; exact wp_load_row ty x ho g hx t cs (0, 0) d hg hu (by cases d <;> simp_all [TypeDesc.isRow]) hi (hK _ _ h)
/-- three messages in memory of the call's own -/
def W3 (w : World) (p0 p1 p2 : Mp) : World := ((w.alloc (.cells p0.cells.toArray 27)).alloc (.cells p1.cells.toArray 27)).alloc (.cells p2.cells.toArray 27)
theorem W3.below (w : World) (p0 p1 p2 : Mp) : Below w.heap.size w (W3 w p0 p1 p2) := (((Below.refl _ _).alloc (Nat.le_refl _) _).alloc (by simp) _).alloc (by simp; omega) _
theorem W3.one (w : World) (p0 p1 p2 : Mp) : Blk (W3 w p0 p1 p2) w.heap.size 27 p0.cells.toArray := ((Blk.new w _ _).alloc _).alloc _
theorem W3.two (w : World) (p0 p1 p2 : Mp) : Blk (W3 w p0 p1 p2) (w.heap.size + 1) 27 p1.cells.toArray := (blk_second w _ _ _).alloc _
theorem W3.three (w : World) (p0 p1 p2 : Mp) : Blk (W3 w p0 p1 p2) (w.heap.size + 1 + 1) 27 p2.cells.toArray := by
  have := Blk.new ((w.alloc (.cells p0.cells.toArray 27)).alloc (.cells p1.cells.toArray 27)) 27 p2.cells.toArray
  unfold W3
  simpa using this
set_option maxRecDepth 100000 in
set_option maxHeartbeats 8000000 in
theorem damage_bad (p0 p1 p2 : Mp) (x : Nat) (mask : BitVec 32) (w : World) (h0 : MsgV w w.heap.size p0.m p0.v) (h1 : MsgV w w.heap.size p1.m p1.v) (h2 : MsgV w w.heap.size p2.m p2.v)
    (r0 : p0.m.rows.length ≤ 140737488355328) (r1 : p1.m.rows.length ≤ 140737488355328) (r2 : p2.m.rows.length ≤ 140737488355328) (hx : x < 65536) (hT : Nib w)
    (hbad : ¬ (Ms.check p0.m = 0 ∧ Ms.check p1.m = 0 ∧ Ms.check p2.m = 0 ∧ mask ≠ 0#32)) :
    Calls Tryz.prog 3 #[.agg p0.cells.toArray, .agg p1.cells.toArray, .agg p2.cells.toArray, .int .u16 (x : Int), .int .u32 (mask.toNat : Int)] w (Yes33 w) := by
  have c0 := fun W (hb : Below w.heap.size w W) => rcheck_any w.heap.size p0.m (.agg p0.cells.toArray) W (h0.below hb) r0
  have c1 := fun W (hb : Below w.heap.size w W) => rcheck_any w.heap.size p1.m (.agg p1.cells.toArray) W (h1.below hb) r1
  have c2 := fun W (hb : Below w.heap.size w W) => rcheck_any w.heap.size p2.m (.agg p2.cells.toArray) W (h2.below hb) r2
  obtain ⟨k0, hk0⟩ : ∃ k, k = Ms.check p0.m := ⟨_, rfl⟩
  obtain ⟨k1, hk1⟩ : ∃ k, k = Ms.check p1.m := ⟨_, rfl⟩
  obtain ⟨k2, hk2⟩ : ∃ k, k = Ms.check p2.m := ⟨_, rfl⟩
  rw [← hk0] at c0 hbad
  rw [← hk1] at c1 hbad
  rw [← hk2] at c2 hbad
  have b0 := W3.below w p0 p1 p2
  have m0 := W3.one w p0 p1 p2
  have m1 := W3.two w p0 p1 p2
  have m2 := W3.three w p0 p1 p2
  have hw3 : ∃ W, W = W3 w p0 p1 p2 := ⟨_, rfl⟩
  obtain ⟨W, hW⟩ := hw3
  rw [← hW] at b0 m0 m1 m2
  clear hk0 hk1 hk2 h0 h1 h2 r0 r1 r2
  unfold W3 at hW
  go_enter Tryz.func3, Tryz.ntmps3
  go_wp2_with (rw [← hW]; refine wpList_load_blk rfl 27 (.tmp 5) rfl w.heap.size rfl 27 _ _ m0 Tryz.underlying27 rfl infoM16 ?_)
  rw [← hW]
  clear hW
  refine (c0 W b0).mono ?_
  rintro e w1 ⟨rfl, hb1⟩
  have b1 := b0.trans (hb1.mono b0.size)
  have n1 := m1.stay hb1
  have n2 := m2.stay hb1
  by_cases z0 : k0 = 0
  · subst z0
    go_wp2_with (refine wpList_load_blkg rfl 27 (.tmp 6) rfl (w.heap.size + 1) rfl 27 _ _ n1 Tryz.underlying27 rfl infoM16 ?_)
    refine (c1 w1 b1).mono ?_
    rintro e w2 ⟨rfl, hb2⟩
    have b2 := b1.trans (hb2.mono b1.size)
    have l2 := n2.stay hb2
    by_cases z1 : k1 = 0
    · subst z1
      go_wp2_with (refine wpList_load_blkg rfl 27 (.tmp 7) rfl (w.heap.size + 1 + 1) rfl 27 _ _ l2 Tryz.underlying27 rfl infoM16 ?_)
      refine (c2 w2 b2).mono ?_
      rintro e w3 ⟨rfl, hb3⟩
      have b3 := b2.trans (hb3.mono b2.size)
      by_cases z2 : k2 = 0
      · subst z2
        have hm0 : mask = 0#32 := Classical.byContradiction fun h => hbad (by simp [h])
        have hm1 : ((mask.toNat : Int) == 0) = true := by rw [hm0]; rfl
        clear hbad hm0
        go_wp2_with fail
        refine (lives33_any _ (hT.stay b3)).mono ?_
        rintro e w7 ⟨rfl, hb7⟩
        go_wp2_with fail
        go_ret
        exact ⟨rfl, b3.trans (hb7.mono b3.size)⟩
      · have hf : ((k2 : Int) != 0) = true := by rw [bne_iff_ne]; omega
        go_wp2_with fail
        refine (lives33_any _ (hT.stay b3)).mono ?_
        rintro e w7 ⟨rfl, hb7⟩
        go_wp2_with fail
        go_ret
        exact ⟨rfl, b3.trans (hb7.mono b3.size)⟩
    · have hf : ((k1 : Int) != 0) = true := by rw [bne_iff_ne]; omega
      go_wp2_with fail
      refine (lives33_any _ (hT.stay b2)).mono ?_
      rintro e w7 ⟨rfl, hb7⟩
      go_wp2_with fail
      go_ret
      exact ⟨rfl, b2.trans (hb7.mono b2.size)⟩
  · have hf : ((k0 : Int) != 0) = true := by rw [bne_iff_ne]; omega
    go_wp2_with fail
    refine (lives33_any _ (hT.stay b1)).mono ?_
    rintro e w7 ⟨rfl, hb7⟩
    go_wp2_with fail
    go_ret
    exact ⟨rfl, b1.trans (hb7.mono b1.size)⟩
end Go.Proofs.YthhhiiagppckhaaGreatDoor
end

section
namespace Go.Proofs.YthhhiiagppckhaaGreatDoor
open Go.RowKit Go.Proofs.U Go.Proofs.Bp
set_option linter.unusedVariables false

set_option maxRecDepth 100000 in
set_option maxHeartbeats 8000000 in
theorem damage_good (p0 p1 p2 : Mp) (x : Nat) (mask : BitVec 32) (w : World) (h0 : MsgV w w.heap.size p0.m p0.v) (h1 : MsgV w w.heap.size p1.m p1.v) (h2 : MsgV w w.heap.size p2.m p2.v)
    (r0 : p0.m.rows.length ≤ 140737488355328) (r1 : p1.m.rows.length ≤ 140737488355328) (r2 : p2.m.rows.length ≤ 140737488355328) (f0 : Ms.Wf p0.m) (f1 : Ms.Wf p1.m) (f2 : Ms.Wf p2.m) (hx : x < 65536) (hT : Nib w) (hE : ErrT w)
    (k0 : Ms.check p0.m = 0) (k1 : Ms.check p1.m = 0) (k2 : Ms.check p2.m = 0) (hm : mask ≠ 0#32) :
    Calls Tryz.prog 3 #[.agg p0.cells.toArray, .agg p1.cells.toArray, .agg p2.cells.toArray, .int .u16 (x : Int), .int .u32 (mask.toNat : Int)] w (Yes33 w) := by
  have c0 : ∀ W, Below w.heap.size w W → Calls Tryz.prog 4 #[.agg p0.cells.toArray] W fun e w' => e = .returned (.int .i64 0) ∧ Below W.heap.size W w' := fun W hb => by have := rcheck_any w.heap.size p0.m (.agg p0.cells.toArray) W (h0.below hb) r0; rw [k0] at this; exact this
  have c1 : ∀ W, Below w.heap.size w W → Calls Tryz.prog 4 #[.agg p1.cells.toArray] W fun e w' => e = .returned (.int .i64 0) ∧ Below W.heap.size W w' := fun W hb => by have := rcheck_any w.heap.size p1.m (.agg p1.cells.toArray) W (h1.below hb) r1; rw [k1] at this; exact this
  have c2 : ∀ W, Below w.heap.size w W → Calls Tryz.prog 4 #[.agg p2.cells.toArray] W fun e w' => e = .returned (.int .i64 0) ∧ Below W.heap.size W w' := fun W hb => by have := rcheck_any w.heap.size p2.m (.agg p2.cells.toArray) W (h2.below hb) r2; rw [k2] at this; exact this
  have s0 := fun W (hb : Below w.heap.size w W) => rsay_any w.heap.size p0 W (h0.below hb) r0 f0 k0
  have s1 := fun W (hb : Below w.heap.size w W) => rsay_any w.heap.size p1 W (h1.below hb) r1 f1 k1
  have s2 := fun W (hb : Below w.heap.size w W) => rsay_any w.heap.size p2 W (h2.below hb) r2 f2 k2
  obtain ⟨e0, le0⟩ := sayB_fr k0
  obtain ⟨e1, le1⟩ := sayB_fr k1
  obtain ⟨e2, le2⟩ := sayB_fr k2
  have ly1 := fwrap_len _ (Ms.enc_len k1)
  rw [← e1] at ly1
  obtain ⟨X, hX⟩ : ∃ X, X = sayB p0.m := ⟨_, rfl⟩
  obtain ⟨Y, hY⟩ : ∃ Y, Y = sayB p1.m := ⟨_, rfl⟩
  obtain ⟨Z, hZ⟩ : ∃ Z, Z = sayB p2.m := ⟨_, rfl⟩
  unfold OwnCode l33 at s0 s1 s2
  simp only at s0 s1 s2
  rw [← hX] at s0 e0 le0
  rw [← hY] at s1 e1 le1 ly1
  rw [← hZ] at s2 e2 le2
  obtain ⟨lx, hlx⟩ : ∃ lx, lx = X.length := ⟨_, rfl⟩
  obtain ⟨ly, hly⟩ : ∃ ly, ly = Y.length := ⟨_, rfl⟩
  obtain ⟨lz, hlz⟩ : ∃ lz, lz = Z.length := ⟨_, rfl⟩
  rw [← hlx] at s0 le0
  rw [← hly] at s1 le1 ly1
  rw [← hlz] at s2 le2
  have hly10 : 10 ≤ ly := by omega
  have hrd0 := Ms.read_enc k0 (wf_wid f0)
  have hel0 := Ms.enc_len k0
  have hel1 := Ms.enc_len k1
  obtain ⟨E0, hE0⟩ : ∃ E, E = Ms.enc p0.m := ⟨_, rfl⟩
  obtain ⟨E1, hE1⟩ : ∃ E, E = Ms.enc p1.m := ⟨_, rfl⟩
  rw [← hE0] at e0 hrd0 hel0
  rw [← hE1] at e1 hel1 ly1
  obtain ⟨first, hfirst⟩ : ∃ first : Nat, first = x % (8 * ly - 31) := ⟨_, rfl⟩
  have hF : ((x : Int) % (8 * (ly : Int) - 31)) = (first : Int) := by
    rw [hfirst, show (8 * (ly : Int) - 31) = ((8 * ly - 31 : Nat) : Int) by omega]; rfl
  have hfb : first + 32 ≤ 8 * ly := by have := Nat.mod_lt x (show 8 * ly - 31 > 0 by omega); omega
  have hgo := goes_burst E0 E1 Z first mask hel0 hel1 (by rw [ly1] at hfb; exact hfb) hm
  rw [← e0, ← e1] at hgo
  have hpl := fun W (hb : Below w.heap.size w W) => rplain_any w.heap.size p0.m p0.A p0.c p0.A2 p0.c2 W (h0.below hb)
  obtain ⟨q, hqm, hqV, hqM⟩ := (plV_msg h0 (Below.refl _ _) (plain_parts p0.m).1 (plain_parts p0.m).2).mp
  rw [hqV, Mp.v_eq] at hpl
  have hpl' : ∀ W, Below w.heap.size w W → Calls Tryz.prog 10 #[.agg p0.cells.toArray] W fun e w' => e = .returned (.agg q.cells.toArray) ∧ Below W.heap.size W w' := fun W hb => (hpl W hb).mono fun e w' ⟨h1, _, h2⟩ => ⟨h1, h2⟩
  have g2 : ((mask.toNat : Int) == 0) = false := by
    have := u32_beq mask 0#32
    rw [decide_eq_false hm] at this; exact this
  have HF := Lib.hid hF
  have HL := Lib.hid (And.intro hlx (And.intro hly hlz))
  have HG := Lib.hid (And.intro hgo (And.intro hrd0 (And.intro hqm hqM)))
  have hw3 : ∃ W, W = W3 w p0 p1 p2 := ⟨_, rfl⟩
  have b0 := W3.below w p0 p1 p2
  have m0 := W3.one w p0 p1 p2
  have m1 := W3.two w p0 p1 p2
  have m2 := W3.three w p0 p1 p2
  obtain ⟨W, hW⟩ := hw3
  rw [← hW] at b0 m0 m1 m2
  clear hF hgo hrd0 hpl hqV hqm hqM hlx hly hlz hfirst hE0 hE1 hX hY hZ e0 e1 e2 ly1 hel0 hel1 h0 h1 h2 r0 r1 r2 f0 f1 f2 k0 k1 k2 hm
  unfold W3 at hW
  go_enter Tryz.func3, Tryz.ntmps3
  go_wp2_with (rw [← hW]; refine wpList_load_blk rfl 27 (.tmp 5) rfl w.heap.size rfl 27 _ _ m0 Tryz.underlying27 rfl infoM16 ?_)
  rw [← hW]
  clear hW
  refine (c0 W b0).mono ?_
  rintro e w1 ⟨rfl, hb1⟩
  have b1 := b0.trans (hb1.mono b0.size)
  have n0 := m0.stay hb1
  have n1 := m1.stay hb1
  have n2 := m2.stay hb1
  go_wp2_with (refine wpList_load_blkg rfl 27 (.tmp 6) rfl (w.heap.size + 1) rfl 27 _ _ n1 Tryz.underlying27 rfl infoM16 ?_)
  refine (c1 w1 b1).mono ?_
  rintro e w2 ⟨rfl, hb2⟩
  have b2 := b1.trans (hb2.mono b1.size)
  have l0 := n0.stay hb2
  have l1 := n1.stay hb2
  have l2 := n2.stay hb2
  clear m0 m1 m2 hb1
  go_wp2_with (refine wpList_load_blkg rfl 27 (.tmp 7) rfl (w.heap.size + 1 + 1) rfl 27 _ _ l2 Tryz.underlying27 rfl infoM16 ?_)
  refine (c2 w2 b2).mono ?_
  rintro e w3 ⟨rfl, hb3⟩
  have b3 := b2.trans (hb3.mono b2.size)
  have a0 := l0.stay hb3
  have a1 := l1.stay hb3
  have a2 := l2.stay hb3
  clear n0 n1 n2 hb2 c0 c1 c2
  go_wp2_with (refine wpList_load_blk rfl 27 (.tmp 5) rfl w.heap.size rfl 27 _ _ a0 Tryz.underlying27 rfl infoM16 ?_)
  refine (s0 w3 b3).mono ?_
  rintro e w4 ⟨Ax, cx, rfl, hox, hb4⟩
  have b4 := b3.trans (hb4.mono b3.size)
  have d0 := a0.stay hb4
  have d1 := a1.stay hb4
  have d2 := a2.stay hb4
  clear l0 l1 l2 hb3 s0
  go_wp2_with (refine wpList_load_blk rfl 27 (.tmp 6) rfl (w.heap.size + 1) rfl 27 _ _ d1 Tryz.underlying27 rfl infoM16 ?_)
  refine (s1 w4 b4).mono ?_
  rintro e w5 ⟨Ay, cy, rfl, hoy, hb5⟩
  have b5 := b4.trans (hb5.mono b4.size)
  have g0 := d0.stay hb5
  have g1 := d2.stay hb5
  have hox5 := hox.below hb5
  have hw0 := a0.lt
  have q34 := hb4.size
  have hylt := World.ownsRow.lt hoy
  clear a0 a1 a2 d0 d1 d2 hb4 s1
  go_wp2_with (refine wpList_load_blk rfl 27 (.tmp 7) rfl (w.heap.size + 1 + 1) rfl 27 _ _ g1 Tryz.underlying27 rfl infoM16 ?_)
  refine (s2 w5 b5).mono ?_
  rintro e w6 ⟨Az, cz, rfl, hoz, hb6⟩
  have b6 := b5.trans (hb6.mono b5.size)
  have o0 := g0.stay hb6
  have hox6 := hox5.below hb6
  have hoy6 := hoy.below hb6
  have hxlt := World.ownsRow.lt hox
  obtain ⟨gy, rfl, hgy, hgyl⟩ := hoy6.form (by omega)
  have b3s := b3.size
  have b4s := b4.size
  have b5s := b5.size
  have q45 := hb5.size
  have q56 := hb6.size
  clear g0 g1 s2 hox hox5 hoy
  have hgy5 : gy < w5.heap.size := (hylt gy rfl).2
  have hzlt := World.ownsRow.lt hoz
  have hfy := HL.out.2.1
  have HY := Lib.hid hfy
  clear hylt hfy
  go_wp2_with fail
  rw [HF.out]
  clear HF
  go_loopw [18] (fun i wr => ∃ k : Nat, k ≤ 32 ∧ i = .int .i64 (k : Int) ∧ Own wr w4.heap.size 5 (some ⟨gy, 0, none⟩) ly cy (fl Y first mask k) ∧ w6.grownBy wr (some gy)) (fun i _ => 32 - (intOf i).toNat)
  case atStart => exact ⟨0, Nat.zero_le _, rfl, hoy6, World.grownBy.refl _ _⟩
  case round =>
    obtain ⟨k, hk, rfl, hown, hgr⟩ := hrel
    by_cases hlt : k < 32
    · obtain ⟨wo, rfl⟩ : ∃ wo : World, wo = wr := ⟨_, rfl⟩
      have hmb := lsb0_bsr mask k
      have hlen := fl_len Y first mask k
      rw [← HY.out] at hlen
      obtain ⟨y, hy⟩ : ∃ y, (fl Y first mask k)[(first + k) / 8]? = some y := ⟨_, List.getElem?_eq_getElem (by omega)⟩
      have hcell := hown.cellAt _ y hy
      have hfree := hown.free ((first + k) / 8)
      have hx8 := x8_walk y ((first + k) % 8) (by omega)
      have Hy := Lib.hid hy
      have Hl2 := Lib.hid hlen
      have Hmb := Lib.hid hmb
      clear hy hlen hmb
      cases hbit : lsb0 (bsr mask k)
      · go_wp2_with fail
        go_roundw
        case rel => exact ⟨k + 1, by omega, by go_num, by rw [fl_no _ _ _ _ (Hmb.out.symm.trans hbit)]; exact hown, hgr⟩
        case measure => simp [intOf]; omega
      · go_wp2_with fail
        go_region
        go_wp2_with fail
        go_roundw
        case rel => exact ⟨k + 1, by omega, by go_num, by rw [fl_yes _ _ _ _ y (Hmb.out.symm.trans hbit) Hy.out]; exact (hown.set _ _).drew, only_drew (only_setCell hgr (.inl rfl) _)⟩
        case measure => simp [intOf]; omega
    · obtain rfl : k = 32 := by omega
      obtain ⟨wm, rfl⟩ : ∃ wm, wm = wr := ⟨_, rfl⟩
      have hoxm : Own wm w3.heap.size 5 Ax lx cx X := World.ownsRow.kept hox6 hgr (by
        cases hA : (Value.slice Ax lx cx).ownBlock with
        | none => exact .inl rfl
        | some j => exact .inr fun e => by injection e with e; have := (hxlt j hA).2; omega)
      have hozm : Own wm w5.heap.size 5 Az lz cz Z := World.ownsRow.kept hoz hgr (by
        cases hA : (Value.slice Az lz cz).ownBlock with
        | none => exact .inl rfl
        | some j => exact .inr fun e => by injection e with e; have := (hzlt j hA).1; omega)
      have bm := b6.grown hgr b6.size (fun j hj => by injection hj with hj; omega)
      have om := o0.grown hgr (by intro e; injection e with e; omega)
      have bms := bm.size
      have q6m := hgr.size
      go_wp2_with fail
      refine (new_line _).mono ?_
      rintro e w7 ⟨gb, rfl, hgb, hkb, hb7⟩
      have hgb1 : w.heap.size < gb := by omega
      have hgb2 : w6.heap.size ≤ gb := by omega
      have hox7 := hoxm.below hb7
      have hoy7 := hown.below hb7
      have hoz7 := hozm.below hb7
      have b7 := bm.trans (hb7.mono bm.size)
      have o7 := om.stay hb7
      have b7s := hb7.size
      have q1 : lx + ly ≤ 140737488355328 := by omega
      have q2 : lx + ly + lz ≤ 140737488355328 := by omega
      have q3 : w3.heap.size ≤ w7.heap.size := by omega
      have HGB := Lib.hid hgb
      have Q := Lib.hid (And.intro q1 (And.intro q2 q3))
      clear hgb q1 q2 q3 hoxm hozm hown hox6 hoy6 hoz om o0
      go_wp2_with (first
        | (at_builtin
           refine wpList_app bt rfl (.tmp 94) (.tmp 95) rfl w3.heap.size Ax lx cx X rfl hox7 _ _ ly cy (fl Y first mask 32) rfl hoy7.bs Q.out.1 Q.out.2.2 ?_
           intro A8 c8 w8 hown8 hg8 hat8
           have hk8 : Ink w8 gb [] 0 := hkb.grown hg8 (hkb.row_ne hox7 (by decide))
           have hoz8 : Own w8 w5.heap.size 5 Az lz cz Z := World.ownsRow.kept hoz7 hg8 (by
             cases hA : (Value.slice Az lz cz).ownBlock with
             | none => exact .inl rfl
             | some j => exact .inr fun e => by have := (hxlt j e.symm).2; have := (hzlt j hA).1; omega)
           have b8 := below_of_grown b7 b7.size hox7 (by omega) hg8
           have o8 := o7.grown hg8 (o7.row_ne hox7 (by decide)))
        | (at_builtin
           refine wpList_app bt rfl (.tmp 96) (.tmp 97) rfl w3.heap.size A8 (lx + ly) c8 _ rfl hown8 _ Az lz cz Z rfl hoz8.bs Q.out.2.1 (Nat.le_trans Q.out.2.2 hg8.size) ?_
           intro A9 c9 w9 hown9 hg9 hat9))
      have hk9 : Ink w9 gb [] 0 := hk8.grown hg9 (hk8.row_ne hown8 (by decide))
      have b9 := below_of_grown b8 b8.size hown8 (by omega) hg9
      have o9 := o8.grown hg9 (o8.row_ne hown8 (by decide))
      have hoff : Off gb A9 (lx + ly + lz) := fun hn a ha => by
        intro e
        apply hk9.row_ne hown9 (by decide)
        rw [ha]; simp [Value.ownBlock, e]
      have hgo : Goes ([] ++ (X ++ fl Y first mask 32 ++ Z)) [E0] [] 14 := by rw [List.nil_append, List.append_assoc]; exact HG.out.1
      have hfd := lfeed_any gb [] w9 hk9 part_nil A9 (lx + ly + lz) c9 _ hown9.bs hoff (by omega) hown9.le (hT.stay b9) [E0] [] 14 hgo (fun p hp => by
        simp only [List.mem_singleton] at hp
        rw [hp, HG.out.2.1])
      clear hgo
      refine hfd.mono ?_
      rintro e w10 ⟨A10, c10, ps, v10, rfl, hmo, hmap, hms, hgr10, -, he14⟩
      obtain ⟨hev, hsl⟩ := he14 (by decide)
      obtain ⟨gq, rfl⟩ : ∃ gq, ps = [gq] := List.length_eq_one_iff.1 (by simpa using congrArg List.length hmap)
      have hgm : gq.m = Ms.plain p0.m := by
        have e : gq.m = rdM E0 := by simpa using hmap
        rw [e]; unfold rdM; rw [HG.out.2.1]
      have hgv := hms gq List.mem_cons_self
      obtain ⟨bg, og, g', rfl, hbg, hg', hrg⟩ := hmo.ms.at_ (k := 0) (by simp)
      obtain rfl : g' = gq := by simpa using hg'.symm
      rw [Nat.zero_mul, Nat.add_zero] at hrg
      have o10 := o9.grown hgr10 (by intro e; injection e with e; omega)
      have b10 := b9.grown hgr10 b9.size (fun j hj => by injection hj with hj; omega)
      have herr := hev.ev
      obtain ⟨Tx, xv, rfl⟩ := ErVn.iface hev (by simp)
      rw [hgm] at hgv
      have HH := Lib.hid (And.intro hgv (And.intro herr (And.intro hsl (And.intro hrg (And.intro o10 (And.intro b10 hbg))))))
      clear hfd he14 hmap hms hmo hg' hgv herr hsl hrg o10 hev hk9 hk8 o9 o8 o7 hoz7 hoz8 hox7 hoy7
      simp only [List.length_cons, List.length_nil, Nat.zero_add]
      go_wp2_with fail
      refine wp_region_class (C := fun w' => Below w10.heap.size w10 w') (by kernel_rfl) (by kernel_rfl) (Drawn.below ⟨1, rfl⟩ _) ?_
      repeat
        (refine wpQuiet_step (fun K hK => ?_)
         rw [if_pos (by rfl)]
         first
           | (refine quiet_load_mid 27 (.tmp 107) rfl bg og rfl g'.cells _ (fun w' hw' => below_range HH.out.2.2.2.1 hw' HH.out.2.2.2.2.2.2) Tryz.underlying27 rfl (infoM16l g') (hK _ ?_))
           | (refine quiet_load_blk 27 (.tmp 5) rfl w.heap.size rfl 27 _ _ (fun w' hw' => HH.out.2.2.2.2.1.stay hw') Tryz.underlying27 rfl infoM16 (hK _ ?_))
           | (apply Exists.intro
              refine ⟨fun w' hw' => ?_, hK _ ?_⟩
              · have hbww := HH.out.2.2.2.2.2.1.trans (hw'.mono HH.out.2.2.2.2.2.1.size)
                have t1 := hpl' w' hbww
                have t2 := rsame15_eq 0 w.heap.size (Ms.plain p0.m) (.agg g'.cells.toArray) (.agg q.cells.toArray) w' (HH.out.1.below hw') (by have := HG.out.2.2.2.below hbww; rw [HG.out.2.2.1] at this; exact this) (by have := rdM_rows E0; unfold rdM at this; rw [HG.out.2.1] at this; exact this)
                have t3 := right_code 14 (by decide) [102, 101, 101, 100] [] (.iface Tx xv) w' (ErV.below hw' HH.out.2.1) (hE.below hbww)
                have t4 := closedShut_any gb (.iface Tx xv) w' (HH.out.2.2.1.below hw')
                have t5 := lives33_any w' (hT.stay hbww)
                go_simp
                first
                  | done
                  | rfl
                  | ((with_reducible refine t1.mono ?_)
                     rintro e w1 ⟨rfl, hb1⟩
                     exact ⟨rfl, hw'.trans (hb1.mono hw'.size)⟩)
                  | ((with_reducible refine t2.mono ?_)
                     rintro e w1 ⟨rfl, hb1⟩
                     exact ⟨rfl, hw'.trans (hb1.mono hw'.size)⟩)
                  | ((with_reducible refine t3.mono ?_)
                     rintro e w1 ⟨rfl, hb1⟩
                     exact ⟨rfl, hw'.trans (hb1.mono hw'.size)⟩)
                  | ((with_reducible refine t4.mono ?_)
                     rintro e w1 ⟨rfl, rfl⟩
                     exact ⟨rfl, hw'⟩)
                  | ((with_reducible refine t5.mono ?_)
                     rintro e w1 ⟨rfl, hb1⟩
                     exact ⟨rfl, hw'.trans (hb1.mono hw'.size)⟩))
         clear hK K
         go_simp)
      refine wpQuiet_nil ?_
      intro w11 hw11
      go_wp2_with fail
      go_ret
      exact ⟨rfl, HH.out.2.2.2.2.2.1.trans (hw11.mono HH.out.2.2.2.2.2.1.size)⟩
end Go.Proofs.YthhhiiagppckhaaGreatDoor
end

section
namespace Go.Proofs.YthhhiiagppckhaaGreatDoor
open Go.RowKit Go.Proofs.U Go.Proofs.Bp
set_option linter.unusedVariables false

theorem lineDamage_any (v0 v1 v2 : Value) (m0 m1 m2 : Ms.Msg) (x : Nat) (mask : BitVec 32) (w : World) (h0 : MsgV w w.heap.size m0 v0) (h1 : MsgV w w.heap.size m1 v1) (h2 : MsgV w w.heap.size m2 v2) (f0 : Ms.Wf m0) (f1 : Ms.Wf m1) (f2 : Ms.Wf m2) (b0 : Ms.Big m0) (b1 : Ms.Big m1) (b2 : Ms.Big m2) (hx : x < 65536) (hT : Nib w) (hE : ErrT w) :
    Calls Tryz.prog 3 #[v0, v1, v2, .int .u16 (x : Int), .int .u32 (mask.toNat : Int)] w (Yes33 w) := by
  obtain ⟨p0, rfl, rfl, h0⟩ := h0.mp
  obtain ⟨p1, rfl, rfl, h1⟩ := h1.mp
  obtain ⟨p2, rfl, rfl, h2⟩ := h2.mp
  have r0 := b0.2.2.1
  have r1 := b1.2.2.1
  have r2 := b2.2.2.1
  by_cases h : Ms.check p0.m = 0 ∧ Ms.check p1.m = 0 ∧ Ms.check p2.m = 0 ∧ mask ≠ 0#32
  · obtain ⟨k0, k1, k2, hm⟩ := h
    exact damage_good p0 p1 p2 x mask w h0 h1 h2 r0 r1 r2 f0 f1 f2 hx hT hE k0 k1 k2 hm
  · exact damage_bad p0 p1 p2 x mask w h0 h1 h2 r0 r1 r2 hx hT h
end Go.Proofs.YthhhiiagppckhaaGreatDoor
end
