/- A pen's number and text, told with a block of bytes that is not the pen's row; conditions: none beyond their hypotheses. -/
import Derived.Test.YthhhiiagppckhaaGreatDoorMgGa8
set_option linter.unusedSimpArgs false
set_option linter.unusedVariables false
section
namespace Go.Proofs.YthhhiiagppckhaaGreatDoor
open Go.RowKit Go.Proofs.U
set_option linter.unusedVariables false

/-- a pen whose row is not a block -/
def PenK (w : World) (g base q : Nat) (bs : List UInt8) : Prop := ∃ A c, Blk w g 101 #[.slice A bs.length c] ∧ Own w base 5 A bs.length c bs ∧ base ≤ g ∧ (Value.slice A bs.length c).ownBlock ≠ some q
theorem PenK.pen {w : World} {g base q : Nat} {bs : List UInt8} (h : PenK w g base q bs) : PenW w g base bs := by obtain ⟨A, c, h1, h2, h3, _⟩ := h; exact ⟨A, c, h1, h2, h3⟩
theorem PenW.new {w : World} {g base : Nat} {bs : List UInt8} (h : PenW w g base bs) (o : Obj) : PenK (w.alloc o) g base w.heap.size bs := by
  obtain ⟨A, c, h1, h2, h3⟩ := h
  exact ⟨A, c, h1.alloc o, h2.alloc o, h3, fun e => by have := (World.ownsRow.lt h2 _ e).2; omega⟩
theorem PenK.below {w w' : World} {g base q : Nat} {bs : List UInt8} (h : PenK w g base q bs) (hb : Below w.heap.size w w') : PenK w' g base q bs := by
  obtain ⟨A, c, h1, h2, h3, h4⟩ := h
  exact ⟨A, c, h1.stay hb, h2.below hb, h3, h4⟩
/-- what a pen's writing leaves, a block of bytes besides -/
structure PnStepK (w w' : World) (g base q : Nat) : Prop where
  os : w'.os = w.os
  tape : w'.tape = w.tape
  output : w'.output = w.output
  size : w.heap.size ≤ w'.heap.size
  block : ∀ k, k < w.heap.size → k ≠ g → (k < base ∨ k = q ∨ ∀ cur fr, w.heap[k]? ≠ some (.cells cur 5 fr)) → w'.heap[k]? = w.heap[k]?
theorem PnStepK.step {w w' : World} {g base q : Nat} (h : PnStepK w w' g base q) : PnStep w w' g base :=
  ⟨h.os, h.tape, h.output, h.size, fun k hk hg ht => h.block k hk hg (ht.imp id .inr)⟩
theorem PnStepK.refl (w : World) (g base q : Nat) : PnStepK w w g base q := ⟨rfl, rfl, rfl, Nat.le_refl _, fun _ _ _ _ => rfl⟩
theorem PnStepK.trans {a b c : World} {g base q : Nat} (h : PnStepK a b g base q) (k : PnStepK b c g base q) : PnStepK a c g base q :=
  ⟨k.os.trans h.os, k.tape.trans h.tape, k.output.trans h.output, Nat.le_trans h.size k.size, fun i hi hg ht => by
    have h1 := h.block i hi hg ht
    rw [← h1]
    exact k.block i (Nat.lt_of_lt_of_le hi h.size) hg (by rw [h1]; exact ht)⟩
theorem pnk_grown {w w' : World} {g base q : Nat} (hg : w.grownBy w' (some g)) : PnStepK w w' g base q := ⟨hg.os, hg.tape, hg.output, hg.size, fun k hk hne _ => hg.block k hk (fun e => hne (by injection e))⟩
theorem pnk_below {w w' : World} {g base q : Nat} (hg : Below w.heap.size w w') : PnStepK w w' g base q := ⟨hg.os, hg.tape, hg.output, hg.size, fun k hk _ _ => hg.block k hk⟩
theorem pnk_row {w w' : World} {g base b n c q : Nat} {A : Option Addr} {vs : List Value} (hown : w.ownsRow b 5 1 (.slice A n c) n vs) (hb : base ≤ b) (hq : (Value.slice A n c).ownBlock ≠ some q) (hg : w.grownBy w' (Value.slice A n c).ownBlock) : PnStepK w w' g base q :=
  ⟨hg.os, hg.tape, hg.output, hg.size, fun k hk hne ht => hg.block k hk (fun e => by
    rcases ht with ht | ht | ht
    · have := (World.ownsRow.lt hown k e.symm).1; omega
    · subst ht; exact hq e.symm
    · rcases hown.2 with ⟨hv, _⟩ | ⟨p, cap, cur, hv, hbq, hh, _⟩
      · rw [hv] at e; simp [Value.ownBlock] at e
      · rw [hv] at e
        simp only [Value.ownBlock, Option.some.injEq] at e
        subst e
        exact ht _ _ hh)⟩
theorem own_not {q m : Nat} {a b : Option Nat} (h : a = b ∨ a = some m) (hb : b ≠ some q) (hm : q < m) : a ≠ some q := by
  rcases h with h | h
  · rw [h]; exact hb
  · rw [h]; intro e; injection e with e; omega
theorem bs_pen {w w' : World} {g base q n : Nat} {A : Option Addr} {d : List UInt8} (h : BS w w.heap.size A n d) (hp : PnStepK w w' g base q) (hq : ∀ a, A = some a → a.block < base ∨ a.block = q) (hbg : base ≤ g) (hqg : q ≠ g) : BS w' w'.heap.size A n d := by
  refine ⟨h.1, fun hn => ?_⟩
  obtain ⟨b, off, e, hlt, hc⟩ := h.2 hn
  have hb := hq _ e
  simp only at hb
  exact ⟨b, off, e, Nat.lt_of_lt_of_le hlt hp.size, fun j hj => (World.cell?_of_block (hp.block b hlt (by rcases hb with hb | hb <;> omega) (hb.imp id .inl))).trans (hc j hj)⟩
theorem step_appk {P : Program} {w : World} {t e : TypeId} (hB : Bt P t e) {ops : Array Oper} {o : Oper} {a : Act} {K : Act → World → Prop} {Q : Exit → Act → World → Prop} {E : Prop} (hg : o.guard = none) (s x : Operand)
    (ho : o.op = .call { callee := .builtin .append, args := #[s, x], argTypes := #[t, t] })
    (base : Nat) (A : Option Addr) (n c : Nat) (bs : List UInt8) (hs : a.eval s = .slice A n c) (hown : Own w base e A n c bs)
    (B : Nat) (A' : Option Addr) (m c' : Nat) (bs' : List UInt8) (hx : a.eval x = .slice A' m c') (hr : BS w B A' m bs') (hlen : n + m ≤ 140737488355328) (hbase : base ≤ w.heap.size)
    (h : ∀ A2 c2 w2, Own w2 base e A2 (n + m) c2 (bs ++ bs') → w.grownBy w2 (Value.slice A n c).ownBlock → ((Value.slice A2 (n + m) c2).ownBlock = (Value.slice A n c).ownBlock ∨ (Value.slice A2 (n + m) c2).ownBlock = some w.heap.size) → K (a.put o.dst (.slice A2 (n + m) c2)) w2) : if Region.wanted o (yielded ops a.tmps) = true then Oper.wp P o a w K Q else E := by
  have hw : Region.wanted o (yielded ops a.tmps) = true := by simp [Region.wanted, hg]
  rw [if_pos hw]
  obtain ⟨A2, c2, w2, hrun, h2, h3, h4⟩ := run_app (w := w) hB o.type base A n c bs hown B A' m c' bs' hr hlen hbase
  unfold Oper.wp execOp
  simp only [ho, resolve, invoke, builtin, Sem.run_bind, Sem.run_pure, Result.andThen_ok, List.map_toArray, List.map_cons, List.map_nil, hs, hx, hrun]
  exact h A2 c2 w2 h2 h3 h4
set_option maxRecDepth 100000 in
set_option maxHeartbeats 4000000 in
theorem pnumk_any (g base q : Nat) (bs : List UInt8) (n : Nat) (hn : n < 18446744073709551616) (w : World) (h : PenK w g base q bs) (hl : bs.length ≤ 70368744177664) (hbase : base ≤ w.heap.size) (hq0 : q < w.heap.size) :
    Calls Tryz.prog 70 #[.pointer (some ⟨g, 0, none⟩), .int .u64 (n : Int)] w fun e w' => e = .returned (.tuple #[]) ∧ PenK w' g base q (bs ++ Gr.numB n) ∧ PnStepK w w' g base q := by
  obtain ⟨A, c, hk, hown, hbg, hqq⟩ := h
  have hw8 := Gr.digs_len8 n
  have hwe := Gr.width_eq n hn
  obtain ⟨b, hbw⟩ : ∃ b : UInt8, b = UInt8.ofNat (Gr.digs n).length := ⟨_, rfl⟩
  have hwd : b.toNat = (Gr.digs n).length := by rw [hbw, UInt8.toNat_ofNat']; omega
  rw [← hwd] at hw8 hwe
  obtain ⟨BL, hBL⟩ : ∃ BL, BL = Gr.bl n := ⟨_, rfl⟩
  rw [← hBL] at hwe
  have hlc := len64_any n hn w
  rw [← hBL] at hlc
  have hbl8 : BL ≤ 64 := by omega
  have hdiv : ((BL : Int) + 7) / 8 = (b.toNat : Int) := by omega
  have hb8 : (b.toNat : Int) ≤ 8 := by omega
  have hnb : Gr.numB n = b :: Gr.digs n := by unfold Gr.numB; rw [hbw]
  have hdg : ∀ i, i < b.toNat → (Gr.digs n)[i]? = some (UInt8.ofNat (n / 256 ^ (b.toNat - 1 - i))) := fun i hi => by
    rw [hwd] at hi ⊢; exact Gr.digs_at n i hi
  have H := Lib.hid (And.intro hwd (And.intro hwe (And.intro hlc (And.intro hnb hdg))))
  clear hwd hwe hBL hlc hnb hdg hbw
  have c0 := hk.cell 0
  have f0 := hk.frozen 0
  simp at c0
  have hlt := hk.lt
  have hn0 : (0 : Int) ≤ (n : Int) := by omega
  have HN := Lib.hid hn
  go_enter Tryz.func70, Tryz.ntmps70
  clear hn
  go_wp2_with fail
  refine H.out.2.2.1.mono ?_
  rintro e w' ⟨rfl, rfl⟩
  have hq : bs.length + 1 ≤ 140737488355328 := by omega
  have hal : ∀ o, Below w.heap.size w (w.alloc o) := fun o => (Below.refl _ _).alloc (Nat.le_refl _) _
  have hkA : Blk (w.alloc (.cells #[.int .u8 (b.toNat : Int)] 5)) g 101 #[.slice A bs.length c] := hk.alloc _
  have hownA : Own (w.alloc (.cells #[.int .u8 (b.toNat : Int)] 5)) base 5 A bs.length c bs := hown.alloc _
  have hne := hkA.row_ne hownA (by decide)
  have hbz := Nat.le_trans hbase (hal (.cells #[.int .u8 (b.toNat : Int)] 5)).size
  go_wp2_with (at_builtin; refine wpList_app bt rfl (.tmp 14) (.tmp 17) rfl base _ _ _ bs rfl hownA _ _ _ _ [b] rfl (BS.fresh w 5 [b]) hq hbz ?_; intro A2 c2 w2 hown2 hg2 hob2; have hqq2 := own_not hob2 hqq (by simp; omega); have hk2 := hkA.grown hg2 hne; have e0 := hk2.cell 0; have e1 := hk2.frozen 0; simp at e0)
  have hp2 : PnStepK w w2 g base q := (pnk_below (hal _)).trans (pnk_row hownA (Nat.le_refl _) hqq hg2)
  have hk3 := hk2.set_ 0 (.slice A2 (bs.length + 1) c2)
  have hg3 : w2.grownBy (w2.setCell ⟨g, 0, none⟩ (.slice A2 (bs.length + 1) c2)) (some g) := only_setCell (World.grownBy.refl _ _) (.inl rfl) _
  have hown3 : Own (w2.setCell ⟨g, 0, none⟩ (.slice A2 (bs.length + 1) c2)) base 5 A2 (bs.length + 1) c2 (bs ++ [b]) := World.ownsRow.kept hown2 hg3 (by
    rcases World.ownsRow.form hown2 (by omega) with ⟨q, cap, hv, _, _⟩
    refine .inr fun e => ?_
    have := hk2.row_ne hown2 (by decide)
    exact this e.symm)
  have hp3 := hp2.trans (pnk_grown (g := g) (base := base) hg3)
  simp at hk3
  have hpen : PenK (w2.setCell ⟨g, 0, none⟩ (.slice A2 (bs.length + 1) c2)) g base q (bs ++ [b]) := ⟨A2, c2, by simpa using hk3, by simpa using hown3, hbg, by simpa using hqq2⟩
  generalize (w2.setCell ⟨g, 0, none⟩ (.slice A2 (bs.length + 1) c2)) = w3 at hpen hp3 ⊢
  clear hob2 hqq2 hqq hk3 hg3 hown3 hp2 hk2 e0 e1 hg2 hown2 hbz hne hownA hkA hal hq c0 f0 hdiv hk hown
  go_loopg [22] b.toNat (fun r i wr => ∃ k : Nat, r + k = b.toNat ∧ i = .int .i64 k ∧ PenK wr g base q (bs ++ b :: (Gr.digs n).take k) ∧ PnStepK w wr g base q)
  case atStart => exact ⟨0, rfl, rfl, hpen, hp3⟩
  case round =>
    clear hpen hp3
    obtain ⟨k, hgk, rfl, hpen, hp⟩ := hrel
    have HGK := Lib.hid hgk
    obtain ⟨wo, rfl⟩ : ∃ wo : World, wo = wr := ⟨_, rfl⟩
    by_cases hlt : k < b.toNat
    · clear hgk
      have hdk := H.out.2.2.2.2 k hlt
      have htk : (Gr.digs n).take (k + 1) = (Gr.digs n).take k ++ [UInt8.ofNat (n / 256 ^ (b.toNat - 1 - k))] := by rw [List.take_add_one, hdk]; rfl
      have hL2 : (bs ++ b :: (Gr.digs n).take (k + 1)) = (bs ++ b :: (Gr.digs n).take k) ++ [UInt8.ofNat (n / 256 ^ (b.toNat - 1 - k))] := by rw [htk]; simp
      obtain ⟨A, c, hk, hown, _, hqq⟩ := hpen
      obtain ⟨L, hL⟩ : ∃ L, L = bs ++ b :: (Gr.digs n).take k := ⟨_, rfl⟩
      have hLl : L.length ≤ bs.length + 10 := by rw [hL]; simp; omega
      rw [← hL] at hk hown hL2 hqq
      obtain ⟨x, hx⟩ : ∃ x : UInt8, x = UInt8.ofNat (n / 256 ^ (b.toNat - 1 - k)) := ⟨_, rfl⟩
      rw [← hx] at hL2
      have HL := Lib.hid (And.intro hL2 hx)
      clear hL2 hx hdk htk hL
      have c0 := hk.cell 0
      have f0 := hk.frozen 0
      simp at c0
      have i1 : (0 : Int) ≤ (b.toNat : Int) - 1 - (k : Int) := by omega
      have w1 : IntKind.i64.wrap ((b.toNat : Int) - 1) = (b.toNat : Int) - 1 := IntWalk.i64_in _ (by omega)
      have w2 : IntKind.i64.wrap ((b.toNat : Int) - 1 - (k : Int)) = (b.toNat : Int) - 1 - (k : Int) := IntWalk.i64_in _ (by omega)
      have w3 : IntKind.i64.wrap (8 * ((b.toNat : Int) - 1 - (k : Int))) = 8 * ((b.toNat : Int) - 1 - (k : Int)) := IntWalk.i64_in _ (by omega)
      have hgl := hk.lt
      have hval : IntKind.u8.wrap ((n : Int) / 2 ^ (8 * ((b.toNat : Int) - 1 - (k : Int))).toNat) = (x.toNat : Int) := by
        rw [HL.out.2, show (8 * ((b.toNat : Int) - 1 - (k : Int))).toNat = 8 * (b.toNat - 1 - k) by omega, show (2 : Int) ^ (8 * (b.toNat - 1 - k)) = ((256 ^ (b.toNat - 1 - k) : Nat) : Int) by rw [show (256 : Nat) = 2 ^ 8 from rfl, ← Nat.pow_mul]; norm_cast, ← Int.natCast_ediv, UInt8.toNat_ofNat', wrapU8]
        norm_cast
      have hal : ∀ o, Below wo.heap.size wo ((wo.alloc o).drew) := fun o => below_drewN ((Below.refl _ _).alloc (Nat.le_refl _) _) 1
      have hkA : Blk ((wo.alloc (.cells #[.int .u8 (x.toNat : Int)] 5)).drew) g 101 #[.slice A L.length c] := (hk.alloc _).drew
      have hownA : Own ((wo.alloc (.cells #[.int .u8 (x.toNat : Int)] 5)).drew) base 5 A L.length c L := (hown.alloc _).drew
      have hbs1 : BS ((wo.alloc (.cells #[.int .u8 (x.toNat : Int)] 5)).drew) ((wo.alloc (.cells #[.int .u8 (x.toNat : Int)] 5)).drew).heap.size (some ⟨wo.heap.size, 0, none⟩) 1 [x] := BS.fresh wo 5 [x]
      have hne := hkA.row_ne hownA (by decide)
      have hbz := Nat.le_trans (Nat.le_trans hbase hp.size) (hal (.cells #[.int .u8 (x.toNat : Int)] 5)).size
      have hq : L.length + 1 ≤ 140737488355328 := by omega
      have hqw := Nat.lt_of_lt_of_le hq0 hp.size
      go_wp2_with fail
      go_region_law (refine step_appk bt rfl (.tmp 29) (.tmp 38) rfl base _ _ _ L rfl hownA _ _ _ _ [x] rfl hbs1 hq hbz ?_; intro A4 c4 w4 hown4 hg4 hob4; have hqq4 := own_not hob4 hqq (by first | (simp; omega) | omega); have hk4 := hkA.grown hg4 hne; have e0 := hk4.cell 0; have e1 := hk4.frozen 0; simp at e0)
      all_goals
        have hp4 : PnStepK wo w4 g base q := (pnk_below (hal _)).trans (pnk_row hownA (Nat.le_refl _) hqq hg4)
        have hk5 := hk4.set_ 0 (.slice A4 (L.length + 1) c4)
        have hg5 : w4.grownBy (w4.setCell ⟨g, 0, none⟩ (.slice A4 (L.length + 1) c4)) (some g) := only_setCell (World.grownBy.refl _ _) (.inl rfl) _
        have hown5 : Own (w4.setCell ⟨g, 0, none⟩ (.slice A4 (L.length + 1) c4)) base 5 A4 (L.length + 1) c4 (L ++ [x]) := World.ownsRow.kept hown4 hg5 (.inr fun e => hk4.row_ne hown4 (by decide) e.symm)
        simp at hk5
        clear hval
        go_wp2_with fail
        go_roundg (gk - 1)
        case measure => have := HGK.out; omega
        case rel =>
          refine ⟨k + 1, by have := HGK.out; omega, by go_num, ?_, (hp.trans hp4).trans (pnk_grown hg5)⟩
          rw [HL.out.1]
          exact ⟨A4, c4, by simpa using hk5, by simpa using hown5, hbg, by simpa using hqq4⟩
    · obtain rfl : k = b.toNat := by omega
      go_wp2_with fail
      go_end0
      have hfin : (Gr.digs n).take b.toNat = Gr.digs n := List.take_of_length_le (by rw [H.out.1]; exact Nat.le_refl _)
      rw [hfin, ← H.out.2.2.2.1] at hpen
      exact ⟨rfl, hpen, hp⟩
set_option maxRecDepth 100000 in
set_option maxHeartbeats 2000000 in
theorem ptextk_any (g base q qd : Nat) (bs d : List UInt8) (A : Option Addr) (c : Nat) (hqg : qd ≠ g) (w : World) (h : PenK w g base qd bs) (hl : bs.length + d.length ≤ 35184372088832) (hbase : base ≤ w.heap.size) (hq : Blk w q 24 #[.slice A d.length c]) (hd : BS w w.heap.size A d.length d) (hdq : ∀ a, A = some a → a.block < base ∨ a.block = qd) (hq0 : qd < w.heap.size) :
    Calls Tryz.prog 50 #[.pointer (some ⟨g, 0, none⟩), .slice (some ⟨q, 0, none⟩) 1 1] w fun e w' => e = .returned (.tuple #[]) ∧ PenK w' g base qd (bs ++ (Gr.numB d.length ++ d)) ∧ PnStepK w w' g base qd := by
  have hne := h.pen.ne hq (by decide)
  have hc0 := hq.cell 0
  simp at hc0
  have hbg : base ≤ g := by obtain ⟨_, _, _, _, h, _⟩ := h; exact h
  obtain ⟨dl, hdl⟩ : ∃ dl, dl = d.length := ⟨_, rfl⟩
  rw [← hdl] at hl hq hd hc0 ⊢
  have HD := Lib.hid hdl
  clear hdl
  go_enter Tryz.func50, Tryz.ntmps50
  go_wp2_with fail
  go_loopg [10] 1 (fun r i wr => ∃ k : Nat, r + k = 1 ∧ i = .int .i64 k ∧ (k = 0 ∧ wr = w ∨ k = 1 ∧ PenK wr g base qd (bs ++ (Gr.numB dl ++ d)) ∧ PnStepK w wr g base qd))
  case atStart => exact ⟨0, rfl, rfl, .inl ⟨rfl, rfl⟩⟩
  case round =>
    obtain ⟨k, hgk, rfl, hcase⟩ := hrel
    rcases hcase with ⟨rfl, rfl⟩ | ⟨rfl, hpen, hp⟩
    · go_wp2_with fail
      refine (pnumk_any g base qd bs dl (by omega) wr h (by omega) hbase hq0).mono ?_
      rintro e w1 ⟨rfl, hpen1, hp1⟩
      obtain ⟨A1, c1, hk1, hown1, _, hqq⟩ := hpen1
      have e0 := hk1.cell 0
      simp at e0
      have hnl := (Gr.numB_len dl).1
      have hd1 : BS w1 w1.heap.size A dl d := bs_pen hd hp1 hdq hbg hqg
      obtain ⟨L, hL⟩ : ∃ L, L = bs ++ Gr.numB dl := ⟨_, rfl⟩
      have hLl : L.length ≤ bs.length + 9 := by rw [hL, List.length_append]; omega
      rw [← hL] at hk1 hown1 hqq
      have hll : (bs.length + (Gr.numB dl).length) = L.length := by rw [hL, List.length_append]
      have HL := Lib.hid hL
      have hq1 : L.length + dl ≤ 140737488355328 := by omega
      have hbz := Nat.le_trans hbase hp1.size
      have hne1 := hk1.row_ne hown1 (by decide)
      first
        | rw [hll] at e0
        | (rw [List.length_append] at e0; rw [hll] at e0)
        | skip
      clear hL hll
      go_wp2_with (at_builtin; refine wpList_app bt rfl (.tmp 23) (.tmp 24) rfl base _ _ _ L rfl hown1 _ _ _ _ d rfl hd1 hq1 hbz ?_; intro A2 c2 w2 hown2 hg2 hob2; have hqq2 := own_not hob2 hqq (Nat.lt_of_lt_of_le hq0 hp1.size); have hk2 := hk1.grown hg2 hne1; have e1 := hk2.cell 0; have e2 := hk2.frozen 0; simp at e1)
      have hp2 := hp1.trans (pnk_row (g := g) hown1 (Nat.le_refl _) hqq hg2)
      have hk3 := hk2.set_ 0 (.slice A2 (L.length + dl) c2)
      have hg3 : w2.grownBy (w2.setCell ⟨g, 0, none⟩ (.slice A2 (L.length + dl) c2)) (some g) := only_setCell (World.grownBy.refl _ _) (.inl rfl) _
      have hne2 : ∀ (n : Nat), 0 < n → True := fun _ _ => trivial
      have hown3 : Own (w2.setCell ⟨g, 0, none⟩ (.slice A2 (L.length + dl) c2)) base 5 A2 (L.length + dl) c2 (L ++ d) := World.ownsRow.kept hown2 hg3 (.inr fun e => hk2.row_ne hown2 (by decide) e.symm)
      simp at hk3
      go_roundg 0
      case measure => omega
      case rel =>
        refine ⟨1, rfl, rfl, .inr ⟨rfl, ⟨A2, c2, ?_, ?_, hbg, ?_⟩, hp2.trans (pnk_grown hg3)⟩⟩
        · rw [← List.append_assoc, ← HL.out, List.length_append, ← HD.out]; exact hk3
        · rw [← List.append_assoc, ← HL.out, List.length_append, ← HD.out]; exact hown3
        · rw [← List.append_assoc, ← HL.out, List.length_append, ← HD.out]; exact hqq2
    · go_wp2_with fail
      go_end0
      exact ⟨rfl, hpen, hp⟩
set_option maxRecDepth 100000 in
set_option maxHeartbeats 2000000 in
theorem ptruth_any (g base q : Nat) (bs : List UInt8) (x : Bool) (w : World) (h : PenW w g base bs) (hl : bs.length ≤ 35184372088832) (hbase : base ≤ w.heap.size) (hq : Blk w q 4 #[.bool x]) :
    Calls Tryz.prog 49 #[.pointer (some ⟨g, 0, none⟩), .slice (some ⟨q, 0, none⟩) 1 1] w fun e w' => e = .returned (.tuple #[]) ∧ PenW w' g base (bs ++ Gr.numB (if x = true then 1 else 0)) ∧ PnStep w w' g base := by
  have hc0 := hq.cell 0
  simp at hc0
  obtain ⟨X, hX⟩ : ∃ X, X = bs ++ Gr.numB (if x = true then 1 else 0) := ⟨_, rfl⟩
  rw [← hX]
  have HX := Lib.hid hX
  clear hX
  go_enter Tryz.func49, Tryz.ntmps49
  go_wp2_with fail
  go_loopg [8] 1 (fun r i wr => ∃ k : Nat, r + k = 1 ∧ i = .int .i64 k ∧ (k = 0 ∧ wr = w ∨ k = 1 ∧ PenW wr g base X ∧ PnStep w wr g base))
  case atStart => exact ⟨0, rfl, rfl, .inl ⟨rfl, rfl⟩⟩
  case round =>
    obtain ⟨k, hgk, rfl, hcase⟩ := hrel
    rcases hcase with ⟨rfl, rfl⟩ | ⟨rfl, hpen, hp⟩
    · cases x with
      | true =>
        go_wp2_with fail
        have hal := (Below.refl wr.heap.size wr).alloc (Nat.le_refl _) (.cells #[.int .u64 ((1 : Nat) : Int)] 22)
        refine (pnums_any g base wr.heap.size bs [1] (by simp) 1 rfl (by omega) _ (h.below hal) hl (Nat.le_trans hbase hal.size) (Blk.new _ _ _)).mono ?_
        rintro e w2 ⟨rfl, hpen2, hp2⟩
        go_wp2_with fail
        go_roundg 0
        case measure => omega
        case rel =>
          refine ⟨1, rfl, rfl, .inr ⟨rfl, ?_, (pn_below hal).trans hp2⟩⟩
          rw [HX.out]; simpa [numsB] using hpen2
      | false =>
        go_wp2_with fail
        have hal := (Below.refl wr.heap.size wr).alloc (Nat.le_refl _) (.cells #[.int .u64 ((0 : Nat) : Int)] 22)
        refine (pnums_any g base wr.heap.size bs [0] (by simp) 1 rfl (by omega) _ (h.below hal) hl (Nat.le_trans hbase hal.size) (Blk.new _ _ _)).mono ?_
        rintro e w2 ⟨rfl, hpen2, hp2⟩
        go_wp2_with fail
        go_roundg 0
        case measure => omega
        case rel =>
          refine ⟨1, rfl, rfl, .inr ⟨rfl, ?_, (pn_below hal).trans hp2⟩⟩
          rw [HX.out]; simpa [numsB] using hpen2
    · go_wp2_with fail
      go_end0
      exact ⟨rfl, hpen, hp⟩
end Go.Proofs.YthhhiiagppckhaaGreatDoor
end
