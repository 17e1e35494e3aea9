/- The walk of sha.Write; conditions: none beyond its hypotheses. -/
import Derived.Test.YtmnanbcinfdbaaaDoorSh4
namespace Go.Proofs.YtmnanbcinfdbaaaDoor
open Go.RowKit Go.Proofs.U
set_option linter.unusedVariables false

/-- a slice that does not lie in block g -/
def Off (g : Nat) (A : Option Addr) (n : Nat) : Prop := 0 < n → ∀ a, A = some a → a.block ≠ g
theorem bs_only {w w' : World} {B n g : Nat} {A : Option Addr} {bs : List UInt8} (h : BS w B A n bs) (hb : w.grownBy w' (some g)) (hB : B ≤ w.heap.size) (ho : Off g A n) : BS w' B A n bs :=
  ⟨h.1, fun hn => by
    obtain ⟨b, off, e, hlt, hc⟩ := h.2 hn
    refine ⟨b, off, e, hlt, fun j hj => ?_⟩
    have hne := ho hn _ e
    exact (World.cell?_of_block (hb.block b (by omega) (fun e2 => hne (by injection e2)))).trans (hc j hj)⟩
/-- what holds at the head of a round of Write -/
def WrAt (w : World) (g : Nat) (L bs : List UInt8) (k : Nat) (b t : Value) (wr : World) : Prop :=
  ∃ X rest J A c, X ++ rest = bs ∧ rest.length = k ∧ b = .slice A k c ∧ t = .int .i64 (((Sh.tl (L ++ X)).length : Nat) : Int) ∧ BS wr w.heap.size A k rest ∧ Off g A k ∧ k ≤ c ∧ (Sh.tl (L ++ X)).length + J.length = 64 ∧
    Blk wr g 38 (hcells (Sh.sub8 (Sh.st (L ++ X)) Sh.H0) (Sh.tl (L ++ X) ++ J) ((L.length + bs.length : Nat) : Int)).toArray ∧ w.grownBy wr (some g)

set_option maxRecDepth 100000 in
set_option maxHeartbeats 4000000 in
theorem write_any (g : Nat) (L : List UInt8) (w : World) (hk : Hsh w g L) (A : Option Addr) (n c : Nat) (bs : List UInt8) (hb : BS w w.heap.size A n bs) (ho : Off g A n) (hc : n ≤ c) (hn : L.length + n ≤ 1099511627776) (hT : Tabs w) (h1 : g ≠ 0) (h2 : g ≠ 1) :
    Calls Tryd.prog 22 #[.pointer (some ⟨g, 0, none⟩), .slice A n c] w fun e w' => e = .returned (.tuple #[]) ∧ Hsh w' g (L ++ bs) ∧ w.grownBy w' (some g) := by
  have hl := hb.1
  have c1 := hk.long
  have ht := Sh.tl_len L
  obtain ⟨ll, hll⟩ : ∃ ll, ll = L.length := ⟨_, rfl⟩
  rw [← hll] at c1 ht hn
  have HLL := Lib.hid hll
  have HT := Lib.hid ht
  have HL := Lib.hid hl
  obtain ⟨J, hJ, hblk⟩ := hk
  have f1 := hblk.frozen 72
  have hset := hcells_set (Sh.sub8 (Sh.st L) Sh.H0) (Sh.tl L ++ J) ll ((ll : Int) + n) (by rw [List.length_append]; exact hJ)
  have hblk1 := hblk.set_ 72 (.int .i64 ((ll : Int) + n))
  rw [HLL.out.symm] at hblk1
  rw [hset] at hblk1
  have HB := Lib.hid hblk1
  have hgl := hblk.lt
  clear hll ht hl hset hblk1
  go_enter Tryd.func22, Tryd.ntmps22
  go_wp2_with fail
  have hgr1 : w.grownBy (w.setCell ⟨g, 72, none⟩ (.int .i64 ((ll : Int) + n))) (some g) := only_setCell (World.grownBy.refl w _) (.inl rfl) _
  have hb1 := bs_only hb hgr1 (Nat.le_refl _) ho
  have hT1 := hT.only hgr1 h1 h2
  have hblk1 := HB.out
  generalize (w.setCell ⟨g, 72, none⟩ (.int .i64 ((ll : Int) + n))) = w1 at hgr1 hb1 hT1 hblk1 ⊢
  clear HB c1 f1 hblk
  go_loopg [1, 4] n (fun k b t wr => WrAt w g L bs k b t wr)
  case atStart => exact ⟨[], bs, J, A, c, rfl, HL.out, rfl, by rw [List.append_nil, HT.out]; simp, hb1, ho, hc, by rw [List.append_nil]; exact hJ, by rw [List.append_nil, HL.out, ← HLL.out]; simpa using hblk1, hgr1⟩
  case round =>
    clear hgr1 hb1 hT1 hblk1 hb ho hc hJ
    obtain ⟨X, rest, J, A, c, hXr, hrl, rfl, rfl, hb, ho, hc, hJ, hblk, hgr⟩ := hrel
    have HX := Lib.hid hXr
    have HR := Lib.hid hrl
    obtain ⟨M, hM⟩ : ∃ M, M = L ++ X := ⟨_, rfl⟩
    rw [← hM] at hJ hblk
    have hMl := congrArg List.length hXr
    rw [List.length_append, hrl, HL.out] at hMl
    have htm := Sh.tl_len M
    have hMlen : M.length = ll + X.length := by rw [hM, List.length_append, ← HLL.out]
    obtain ⟨a, ha⟩ : ∃ a, a = (Sh.tl M).length := ⟨_, rfl⟩
    have ha64 : a < 64 := by rw [ha, htm]; omega
    have HM := Lib.hid hM
    have HA := Lib.hid ha
    have HTM := Lib.hid htm
    have HML := Lib.hid hMlen
    clear hXr hrl
    rw [← hM, ← ha]
    clear hM ha htm hMlen
    by_cases hk0 : gk = 0
    · have hk0' : gk ≤ 0 := by omega
      go_wp2_with fail
      go_end0
      have hr0 : rest = [] := List.eq_nil_of_length_eq_zero (by rw [HR.out]; exact hk0)
      have hXb : X = bs := by rw [← HX.out, hr0, List.append_nil]
      have hMb : M = L ++ bs := by rw [HM.out, hXb]
      rw [hMb] at hJ hblk
      exact ⟨rfl, ⟨J, hJ, by rw [List.length_append]; exact hblk⟩, hgr⟩
    · have hkp : 0 < gk := by omega
      obtain ⟨q, hq⟩ : ∃ q, q = min gk (64 - a) := ⟨_, rfl⟩
      have HQ := Lib.hid hq
      clear hq hk0
      have i1 : (a : Int) ≤ 64 := by omega
      have i2 : ¬ (64 = a) := by omega
      have i3 : ¬ (a = 64) := by omega
      obtain ⟨bA, oA, rfl, hbA, -⟩ := hb.2 hkp
      have hq1 : q ≤ gk := by have := HQ.out; omega
      have hq2 : q ≤ 64 - a := by have := HQ.out; omega
      have hq3 : 0 < q := by have := HQ.out; omega
      have hxl : (rest.take q).length = q := by rw [List.length_take, HR.out]; omega
      obtain ⟨x, hx⟩ : ∃ x, x = rest.take q := ⟨_, rfl⟩
      rw [← hx] at hxl
      have hxs : x ++ rest.drop q = rest := by rw [hx, List.take_append_drop]
      have hJl : J.length = 64 - a := by rw [HA.out]; omega
      obtain ⟨cs, hcs⟩ : ∃ cs, cs = x.map bv := ⟨_, rfl⟩
      have hcl : cs.length = q := by rw [hcs, List.length_map, hxl]
      have hc1 : cs.length = Nat.min gk (64 - a) := by rw [hcl, HQ.out]
      have hc2 : 0 < cs.length → (some ⟨g, 8 + a, none⟩ : Option Addr) = some ⟨g, 8 + a, none⟩ ∧ ∃ ad, (some ⟨bA, oA, none⟩ : Option Addr) = some ad ∧ ∀ (j : Nat) v, cs[j]? = some v → wr.cell? (ad.add j) = some v := by
        intro _
        refine ⟨rfl, _, rfl, fun j v hj => ?_⟩
        rw [hcs, hx, List.getElem?_map] at hj
        obtain ⟨y, hy, rfl⟩ := Option.map_eq_some_iff.1 hj
        rw [addr_add]
        have hjq : j < q := by have := (List.getElem?_eq_some_iff.1 hy).1; rw [List.length_take] at this; omega
        rw [List.getElem?_take, if_pos hjq] at hy
        exact hb.cells j y hy
      have hc3 : 8 + a + cs.length ≤ (hcells (Sh.sub8 (Sh.st M) Sh.H0) (Sh.tl M ++ J) ((L.length + bs.length : Nat) : Int)).length := by rw [hcells_len, List.length_append, hJ, hcl]; omega
      have hc4 : ∀ v ∈ cs, v.oneCell' = true := by intro v hv; rw [hcs] at hv; obtain ⟨y, _, rfl⟩ := List.mem_map.1 hv; rfl
      have hspl : splice (hcells (Sh.sub8 (Sh.st M) Sh.H0) (Sh.tl M ++ J) ((L.length + bs.length : Nat) : Int)) (8 + a) cs = hcells (Sh.sub8 (Sh.st M) Sh.H0) (Sh.tl M ++ x ++ J.drop q) ((L.length + bs.length : Nat) : Int) := by
        rw [hcs, HA.out, hcells_splice _ _ _ _ _ hJ (by omega), hxl]
      have HC := Lib.hid (And.intro hc1 (And.intro hc2 (And.intro hc3 (And.intro hc4 (And.intro hcl hspl)))))
      have HXS := Lib.hid (And.intro hxs hxl)
      have HXX := Lib.hid hx
      have HJL := Lib.hid hJl
      have hTr := hT.only hgr h1 h2
      obtain ⟨long, hlong⟩ : ∃ long : Int, long = ((L.length + bs.length : Nat) : Int) := ⟨_, rfl⟩
      rw [← hlong] at HC hblk
      have HLO := Lib.hid hlong
      have hsz1 : (Tryd.prog.info? 5).map (·.size) = some 1 := by kernel_rfl
      have HZ := Lib.hid hsz1
      have hbd := (hb.drop (k := q) hq1)
      have hod : Off g (some ⟨bA, oA + q, none⟩) (gk - q) := fun h a e => by injection e with e; subst e; exact ho hkp ⟨bA, oA, none⟩ rfl
      have hwz := hgr.size
      clear hc1 hc2 hc3 hc4 hcl hspl hcs hxs hxl hx hJl hlong hsz1
      have i4 : (q : Int) ≤ (gk : Int) := by omega
      have i5 : (q : Int) ≤ (c : Int) := by omega
      have ways : (a + q = 64 ∧ c = q) ∨ (a + q = 64 ∧ c ≠ q) ∨ (a + q < 64 ∧ c = q) ∨ (a + q < 64 ∧ c ≠ q) := by omega
      rcases ways with ⟨hw, hcq⟩ | ⟨hw, hcq⟩ | ⟨hw, hcq⟩ | ⟨hw, hcq⟩
      all_goals
        first
          | (have t64 : (((a : Int) + (q : Int)) == 64) = true := by rw [beq_iff_eq]; omega)
          | (have t64 : (((a : Int) + (q : Int)) == 64) = false := by rw [beq_eq_false_iff_ne]; omega)
        have HW := Lib.hid hw
        clear hw
        first
          | (have hcq' := hcq.symm; subst hcq')
          | skip
        go_wp2_with (refine wpList_copy_into rfl (.tmp 29) (.tmp 30) 22 22 rfl 5 Tryd.underlying22 HZ.out _ _ _ _ _ _ rfl rfl g (8 + a) _ 38 hblk cs HC.out.1 HC.out.2.1 HC.out.2.2.1 HC.out.2.2.2.1 ?_; intro w2 hb2 hg2; rw [HC.out.2.2.2.2.1]; rw [HC.out.2.2.2.2.2] at hb2)
        have hgr2 := only_trans hgr hg2
        have hbd2 := bs_only hbd hg2 hwz hod
        first
          | (have hq64 : q = 64 - a := by have := HW.out; omega
             have hJ0 : J.drop q = [] := List.drop_of_length_le (by rw [HJL.out]; omega)
             rw [hJ0, List.append_nil] at hb2
             have hpl : (Sh.tl M ++ x).length = 64 := by rw [List.length_append, HXS.out.2, ← HA.out]; have := HW.out; omega
             have hbp : BS w2 w2.heap.size (some ⟨g, 8, none⟩) 64 (Sh.tl M ++ x) := by
               refine ⟨hpl, fun _ => ⟨g, 8, rfl, hb2.lt, fun j hj => ?_⟩⟩
               rw [hb2.cell, List.getElem?_toArray]
               exact hcells_part _ _ _ j _ (by simp)
             refine (mix_any g (Sh.st M) (Sh.tl M ++ x) long (some ⟨g, 8, none⟩) 64 (Sh.tl M ++ x) w2 hb2 hbp (Nat.le_refl _) (hTr.only hg2 h1 h2) h1 h2).mono ?_
             rintro e w3 ⟨rfl, hb3, hg3⟩
             obtain ⟨hst, htl⟩ := Sh.st_full M x (by rw [HXS.out.2, ← HTM.out, ← HA.out]; exact HW.out)
             have HS := Lib.hid (And.intro hst htl)
             have HPL := Lib.hid hpl
             have hbd3 := bs_only hbd2 hg3 (Nat.le_trans hwz hg2.size) hod
             clear hst htl hpl hJ0 hq64 hbp
             go_wp2_with fail
             go_roundg (gk - q)
             case measure => omega
             case rel =>
               have hMx : L ++ (X ++ x) = M ++ x := by rw [HM.out, List.append_assoc]
               refine ⟨X ++ x, rest.drop q, Sh.tl M ++ x, _, _, by rw [List.append_assoc, HXS.out.1, HX.out], by rw [List.length_drop, HR.out], by first | rfl | (rw [show gk - q = 0 by omega]), by rw [hMx, HS.out.2]; rfl, ?_, ?_, ?_, by rw [hMx, HS.out.2, HPL.out]; rfl, by rw [hMx, HS.out.1, HS.out.2, ← HLO.out, List.nil_append]; exact hb3, only_trans hgr2 hg3⟩
               · first | exact hbd3 | (rw [show gk - q = 0 by omega, List.drop_of_length_le (by rw [HR.out]; omega)]; exact BS.nil _ _ _)
               · first | exact hod | (intro h0; exfalso; omega)
               · omega)
          | (obtain ⟨hst, htl⟩ := Sh.st_small M x (by rw [HXS.out.2, ← HTM.out, ← HA.out]; exact HW.out)
             have HS := Lib.hid (And.intro hst htl)
             clear hst htl
             go_roundg (gk - q)
             case measure => omega
             case rel =>
               have hMx : L ++ (X ++ x) = M ++ x := by rw [HM.out, List.append_assoc]
               refine ⟨X ++ x, rest.drop q, J.drop q, _, _, by rw [List.append_assoc, HXS.out.1, HX.out], by rw [List.length_drop, HR.out], by first | rfl | (rw [show gk - q = 0 by omega]), ?_, ?_, ?_, ?_, ?_, by rw [hMx, HS.out.1, HS.out.2, ← HLO.out]; exact hb2, hgr2⟩
               · rw [hMx, HS.out.2, List.length_append, HXS.out.2, ← HA.out]; go_num
               · first | exact hbd2 | (rw [show gk - q = 0 by omega, List.drop_of_length_le (by rw [HR.out]; omega)]; exact BS.nil _ _ _)
               · first | exact hod | (intro h0; exfalso; omega)
               · omega
               · rw [hMx, HS.out.2, List.length_append, HXS.out.2, ← HA.out, List.length_drop, HJL.out]; omega)
end Go.Proofs.YtmnanbcinfdbaaaDoor
