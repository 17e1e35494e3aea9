/- The walks of grain's pen: Num, Text, Bytes; the reference's numbers and texts; conditions: none beyond their hypotheses. -/
import Derived.Test.YthhhiiagppckhaaDoorGa8
namespace Go.Proofs.YthhhiiagppckhaaDoor
open Go.RowKit Go.Proofs.U
set_option linter.unusedVariables false

def u64v (n : Nat) : Value := .int .u64 (n : Int)
theorem PenW.below {w w' : World} {g base : Nat} {bs : List UInt8} (h : PenW w g base bs) (hb : Below w.heap.size w w') : PenW w' g base bs := by
  obtain ⟨A, c, h1, h2, h3⟩ := h
  exact ⟨A, c, h1.stay hb, h2.below hb, h3⟩
theorem PenW.lt {w : World} {g base : Nat} {bs : List UInt8} (h : PenW w g base bs) : g < w.heap.size := by obtain ⟨_, _, h1, _⟩ := h; exact h1.lt
theorem PenW.ne {w : World} {g base b : Nat} {bs : List UInt8} {T : TypeId} {cs : Array Value} (h : PenW w g base bs) (hk : Blk w b T cs) (hT : T ≠ 97) : b ≠ g := by
  obtain ⟨A, c, h1, _⟩ := h
  exact hk.ne_ h1 hT
def numsB (l : List Nat) : List UInt8 := l.flatMap Gr.numB
theorem numsB_take (l : List Nat) (k x : Nat) (h : l[k]? = some x) : numsB (l.take (k + 1)) = numsB (l.take k) ++ Gr.numB x := by
  rw [List.take_add_one, h]; simp [numsB]
theorem numsB_len (l : List Nat) : (numsB l).length ≤ 9 * l.length := by
  unfold numsB
  induction l with
  | nil => simp
  | cons x l ih => rw [List.flatMap_cons, List.length_append]; have := (Gr.numB_len x).1; simp only [List.length_cons]; omega
set_option maxRecDepth 100000 in
set_option maxHeartbeats 2000000 in
theorem pnums_any (g base q : Nat) (bs : List UInt8) (ns : List Nat) (hns : ∀ x ∈ ns, x < 18446744073709551616) (m : Nat) (hm : ns.length = m) (hm8 : m ≤ 8) (w : World) (h : PenW w g base bs) (hl : bs.length ≤ 35184372088832) (hbase : base ≤ w.heap.size) (hq : Blk w q 22 (ns.map u64v).toArray) :
    Calls Tryd.prog 51 #[.pointer (some ⟨g, 0, none⟩), .slice (some ⟨q, 0, none⟩) m m] w fun e w' => e = .returned (.tuple #[]) ∧ PenW w' g base (bs ++ numsB ns) ∧ PnStep w w' g base := by
  have HN := Lib.hid (And.intro hns hm)
  clear hns hm
  go_enter Tryd.func51, Tryd.ntmps51
  go_wp2_with fail
  go_loopg [10] m (fun r i wr => ∃ k : Nat, r + k = m ∧ i = .int .i64 k ∧ PenW wr g base (bs ++ numsB (ns.take k)) ∧ PnStep w wr g base ∧ Blk wr q 22 (ns.map u64v).toArray)
  case atStart => exact ⟨0, rfl, rfl, by simpa [numsB] using h, PnStep.refl _ _ _, hq⟩
  case round =>
    obtain ⟨k, hgk, rfl, hpen, hp, hk⟩ := hrel
    have HGK := Lib.hid hgk
    obtain ⟨wo, rfl⟩ : ∃ wo : World, wo = wr := ⟨_, rfl⟩
    by_cases hlt : k < m
    · clear hgk
      obtain ⟨x, hx⟩ : ∃ x, ns[k]? = some x := ⟨_, List.getElem?_eq_getElem (by rw [HN.out.2]; exact hlt)⟩
      have hc : wo.cell? ⟨q, k, none⟩ = some (.int .u64 (x : Int)) := by rw [hk.cell, List.getElem?_toArray, List.getElem?_map, hx]; rfl
      have htk := numsB_take ns k x hx
      have hxl := HN.out.1 x (List.mem_of_getElem? hx)
      have hL : (bs ++ numsB (ns.take k)).length ≤ 70368744177664 := by
        have := numsB_len (ns.take k)
        rw [List.length_append]; simp at this; omega
      have hne := hpen.ne hk (by decide)
      have hbz := Nat.le_trans hbase hp.size
      have H := Lib.hid (And.intro htk hxl)
      clear htk hx hxl
      go_wp2_with fail
      refine (pnum_any g base _ x H.out.2 wo hpen hL hbz).mono ?_
      rintro e w1 ⟨rfl, hpen1, hp1⟩
      go_wp2_with fail
      go_roundg (gk - 1)
      case measure => have := HGK.out; omega
      case rel => exact ⟨k + 1, by have := HGK.out; omega, by go_num, by rw [H.out.1, ← List.append_assoc]; exact hpen1, hp.trans hp1, hp1.blk hk hne (by decide)⟩
    · obtain rfl : k = m := by omega
      go_wp2_with fail
      go_end0
      rw [List.take_of_length_le (by rw [HN.out.2]; exact Nat.le_refl _)] at hpen
      exact ⟨rfl, hpen, hp⟩
set_option maxRecDepth 100000 in
set_option maxHeartbeats 2000000 in
theorem ptext_any (g base q : Nat) (bs d : List UInt8) (A : Option Addr) (c : Nat) (w : World) (h : PenW w g base bs) (hl : bs.length + d.length ≤ 35184372088832) (hbase : base ≤ w.heap.size) (hq : Blk w q 24 #[.slice A d.length c]) (hd : BS w base A d.length d) :
    Calls Tryd.prog 55 #[.pointer (some ⟨g, 0, none⟩), .slice (some ⟨q, 0, none⟩) 1 1] w fun e w' => e = .returned (.tuple #[]) ∧ PenW w' g base (bs ++ (Gr.numB d.length ++ d)) ∧ PnStep w w' g base := by
  have hne := h.ne hq (by decide)
  have hc0 := hq.cell 0
  simp at hc0
  have hbg : base ≤ g := by obtain ⟨_, _, _, _, h⟩ := h; exact h
  obtain ⟨dl, hdl⟩ : ∃ dl, dl = d.length := ⟨_, rfl⟩
  rw [← hdl] at hl hq hd hc0 ⊢
  have HD := Lib.hid hdl
  clear hdl
  go_enter Tryd.func55, Tryd.ntmps55
  go_wp2_with fail
  go_loopg [10] 1 (fun r i wr => ∃ k : Nat, r + k = 1 ∧ i = .int .i64 k ∧ (k = 0 ∧ wr = w ∨ k = 1 ∧ PenW wr g base (bs ++ (Gr.numB dl ++ d)) ∧ PnStep w wr g base))
  case atStart => exact ⟨0, rfl, rfl, .inl ⟨rfl, rfl⟩⟩
  case round =>
    obtain ⟨k, hgk, rfl, hcase⟩ := hrel
    rcases hcase with ⟨rfl, rfl⟩ | ⟨rfl, hpen, hp⟩
    · go_wp2_with fail
      refine (pnum_any g base bs dl (by omega) wr h (by omega) hbase).mono ?_
      rintro e w1 ⟨rfl, hpen1, hp1⟩
      obtain ⟨A1, c1, hk1, hown1, _⟩ := hpen1
      have e0 := hk1.cell 0
      simp at e0
      have hnl := (Gr.numB_len dl).1
      have hd1 : BS w1 base A dl d := hd.keep fun p hp => World.cell?_of_block (hp1.block p.block (by omega) (by omega) (.inl hp))
      obtain ⟨L, hL⟩ : ∃ L, L = bs ++ Gr.numB dl := ⟨_, rfl⟩
      have hLl : L.length ≤ bs.length + 9 := by rw [hL, List.length_append]; omega
      rw [← hL] at hk1 hown1
      have hll : (bs.length + (Gr.numB dl).length) = L.length := by rw [hL, List.length_append]
      have HL := Lib.hid hL
      have hq1 : L.length + dl ≤ 140737488355328 := by omega
      have hbz := Nat.le_trans hbase hp1.size
      have hne1 := hk1.row_ne hown1 (by decide)
      first
        | rw [hll] at e0
        | (rw [List.length_append] at e0; rw [hll] at e0)
        | skip
      clear hL hll
      go_wp2_with (at_builtin; refine wpList_app bt rfl (.tmp 23) (.tmp 24) rfl base _ _ _ L rfl hown1 _ _ _ _ d rfl hd1 hq1 hbz ?_; intro A2 c2 w2 hown2 hg2 _; have hk2 := hk1.grown hg2 hne1; have e1 := hk2.cell 0; have e2 := hk2.frozen 0; simp at e1)
      have hp2 := hp1.trans (pn_row (g := g) hown1 (Nat.le_refl _) hg2)
      have hk3 := hk2.set_ 0 (.slice A2 (L.length + dl) c2)
      have hg3 : w2.grownBy (w2.setCell ⟨g, 0, none⟩ (.slice A2 (L.length + dl) c2)) (some g) := only_setCell (World.grownBy.refl _ _) (.inl rfl) _
      have hne2 : ∀ (n : Nat), 0 < n → True := fun _ _ => trivial
      have hown3 : Own (w2.setCell ⟨g, 0, none⟩ (.slice A2 (L.length + dl) c2)) base 5 A2 (L.length + dl) c2 (L ++ d) := World.ownsRow.kept hown2 hg3 (.inr fun e => hk2.row_ne hown2 (by decide) e.symm)
      simp at hk3
      go_roundg 0
      case measure => omega
      case rel =>
        refine ⟨1, rfl, rfl, .inr ⟨rfl, ⟨A2, c2, ?_, ?_, hbg⟩, hp2.trans (pn_grown hg3)⟩⟩
        · rw [← List.append_assoc, ← HL.out, List.length_append, ← HD.out]; exact hk3
        · rw [← List.append_assoc, ← HL.out, List.length_append, ← HD.out]; exact hown3
    · go_wp2_with fail
      go_end0
      exact ⟨rfl, hpen, hp⟩
set_option maxHeartbeats 1000000 in
theorem pbytes_any (g base : Nat) (bs : List UInt8) (w : World) (h : PenW w g base bs) (hl : bs.length ≤ 140737488355328) :
    Calls Tryd.prog 56 #[.pointer (some ⟨g, 0, none⟩)] w (OwnRet 5 w bs.length bs) := by
  obtain ⟨A, c, hk, hown, _⟩ := h
  have c0 := hk.cell 0
  simp at c0
  go_enter Tryd.func56, Tryd.ntmps56
  go_wp2_with fail
  refine (clone_any A bs.length c bs w w.heap.size hown.bs (Nat.le_refl _) hl).mono ?_
  rintro e w1 ⟨A1, c1, rfl, hown1, hb1⟩
  go_wp2_with fail
  go_ret
  exact ⟨A1, c1, rfl, hown1, hb1⟩
end Go.Proofs.YthhhiiagppckhaaDoor
