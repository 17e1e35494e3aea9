/- The walks of sha's New, Clone, Len, eight; conditions: none beyond their hypotheses. The walk of sha.Write; conditions: none beyond its hypotheses. The walks of sha.eight; conditions: none beyond its hypotheses. -/
import Derived.Test.YtmnanbcinfdbaaaDoorMgSh3
set_option linter.unusedSimpArgs false
set_option linter.unusedVariables false
section
namespace Go.Proofs.YtmnanbcinfdbaaaDoor
open Go.RowKit Go.Proofs.U
set_option linter.unusedVariables false

def zpart : List UInt8 := List.replicate 64 0
theorem zeroH : (Tryd.prog.info? 38).map (fun i => (i.zero, i.size)) = some (some (.agg (hcells (Sh.sub8 Sh.H0 Sh.H0) zpart 0).toArray), 73) := by kernel_rfl
theorem hcells_long (s : Sh.V8) (p : List UInt8) (long : Int) (h : p.length = 64) : (hcells s p long)[72]? = some (.int .i64 long) := by
  unfold hcells
  rw [List.getElem?_append_right (by simp [Sh.V8.l]), List.getElem?_append_right (by simp [Sh.V8.l]; omega)]
  simp [Sh.V8.l, h]
theorem hcells_set (s : Sh.V8) (p : List UInt8) (long l2 : Int) (h : p.length = 64) : (hcells s p long).toArray.setIfInBounds 72 (.int .i64 l2) = (hcells s p l2).toArray := by
  unfold hcells
  rw [List.setIfInBounds_toArray, List.set_append_right _ _ (by simp [Sh.V8.l]), List.set_append_right _ _ (by simp [Sh.V8.l]; omega)]
  simp [Sh.V8.l, h]
theorem hcells_part (s : Sh.V8) (p : List UInt8) (long : Int) (j : Nat) (x : UInt8) (h : p[j]? = some x) : (hcells s p long)[8 + j]? = some (bv x) := by
  unfold hcells
  have hl := (List.getElem?_eq_some_iff.1 h).1
  rw [List.getElem?_append_right (by simp [Sh.V8.l]), List.getElem?_append_left (by simp [Sh.V8.l]; omega), List.getElem?_map]
  simp [Sh.V8.l, h]
theorem hcells_splice (s : Sh.V8) (P J X : List UInt8) (long : Int) (h : P.length + J.length = 64) (hX : X.length ≤ J.length) :
    splice (hcells s (P ++ J) long) (8 + P.length) (X.map bv) = hcells s (P ++ X ++ J.drop X.length) long := by
  unfold splice hcells
  have e1 : (s.l.map uv).length = 8 := rfl
  have e2 : ((P ++ J).map bv ++ [Value.int .i64 long]) = P.map bv ++ (J.map bv ++ [Value.int .i64 long]) := by simp
  rw [e2, List.take_append, List.drop_append, e1]
  rw [List.take_of_length_le (by rw [e1]; omega), List.drop_of_length_le (by rw [e1]; omega)]
  rw [List.take_append_of_le_length (by simp), List.take_of_length_le (by simp), List.drop_append, List.drop_of_length_le (by simp; omega)]
  rw [List.drop_append_of_le_length (by simp; omega)]
  simp [List.map_drop]
  omega
theorem hcells_all (s : Sh.V8) (p : List UInt8) (long : Int) : (hcells s p long).toArray.all (·.oneCell') = true := by
  refine all_oneCell_toArray fun v hv => ?_
  unfold hcells at hv
  simp only [List.mem_append, List.mem_map, List.mem_singleton] at hv
  rcases hv with ⟨x, _, rfl⟩ | ⟨x, _, rfl⟩ | rfl <;> rfl

/-- a hash into which L was written -/
def Hsh (w : World) (g : Nat) (L : List UInt8) : Prop := ∃ J : List UInt8, (Sh.tl L).length + J.length = 64 ∧ Blk w g 38 (hcells (Sh.sub8 (Sh.st L) Sh.H0) (Sh.tl L ++ J) L.length).toArray
theorem Hsh.lt {w : World} {g : Nat} {L : List UInt8} (h : Hsh w g L) : g < w.heap.size := by obtain ⟨_, _, hb⟩ := h; exact hb.lt
theorem Hsh.below {w w' : World} {g : Nat} {L : List UInt8} (h : Hsh w g L) (hb : Below w.heap.size w w') : Hsh w' g L := by obtain ⟨J, hl, hk⟩ := h; exact ⟨J, hl, hk.stay hb⟩
theorem Hsh.grown {w w' : World} {g : Nat} {L : List UInt8} {row : Option Nat} (h : Hsh w g L) (hg : w.grownBy w' row) (hne : some g ≠ row) : Hsh w' g L := by obtain ⟨J, hl, hk⟩ := h; exact ⟨J, hl, hk.grown hg hne⟩
theorem Hsh.alloc {w : World} {g : Nat} {L : List UInt8} (h : Hsh w g L) (o : Obj) : Hsh (w.alloc o) g L := by obtain ⟨J, hl, hk⟩ := h; exact ⟨J, hl, hk.alloc o⟩
theorem Hsh.drew {w w' : World} {g : Nat} {L : List UInt8} (h : Hsh w g L) (hd : Drawn w w') : Hsh w' g L := by obtain ⟨q, rfl⟩ := hd; exact h
theorem Hsh.long {w : World} {g : Nat} {L : List UInt8} (h : Hsh w g L) : w.cell? ⟨g, 72, none⟩ = some (.int .i64 (L.length : Int)) := by
  obtain ⟨J, hl, hk⟩ := h
  rw [hk.cell, List.getElem?_toArray]; exact hcells_long _ _ _ (by rw [List.length_append]; exact hl)
theorem Hsh.zero (w : World) (z : Array Value) (hz : z = (hcells (Sh.sub8 Sh.H0 Sh.H0) zpart 0).toArray) : Hsh (w.alloc (.cells z 38)) w.heap.size [] := by
  refine ⟨zpart, rfl, ?_⟩
  have := Blk.new w 38 z
  rw [hz] at this ⊢; exact this

set_option maxHeartbeats 1000000 in
theorem shaNew_any (w : World) : Calls Tryd.prog 21 #[] w fun e w' => ∃ g, e = .returned (.pointer (some ⟨g, 0, none⟩)) ∧ w.heap.size ≤ g ∧ Hsh w' g [] ∧ Below w.heap.size w w' := by
  obtain ⟨hz, hs⟩ := Go.zero_of_info zeroH
  obtain ⟨z, hzz⟩ : ∃ z, z = (hcells (Sh.sub8 Sh.H0 Sh.H0) zpart 0).toArray := ⟨_, rfl⟩
  have Hz := Lib.hid hzz
  rw [← hzz] at hz
  clear hzz
  go_enter Tryd.func21, Tryd.ntmps21
  go_wp2_with fail
  go_ret
  exact ⟨_, rfl, Nat.le_refl _, Hsh.zero w z Hz.out, (Below.refl _ _).alloc (Nat.le_refl _) _⟩
set_option maxHeartbeats 1000000 in
theorem shaLen_any (g : Nat) (L : List UInt8) (w : World) (h : Hsh w g L) : Calls Tryd.prog 23 #[.pointer (some ⟨g, 0, none⟩)] w fun e w' => e = .returned (.int .i64 (L.length : Int)) ∧ w = w' := by
  have c1 := h.long
  go_enter Tryd.func23, Tryd.ntmps23
  go_wp2_with fail
  go_ret
  exact ⟨rfl, rfl⟩
set_option maxHeartbeats 1000000 in
theorem shaLenNil_any (w : World) : Calls Tryd.prog 23 #[.pointer none] w fun e w' => e = .returned (.int .i64 0) ∧ w = w' := by
  go_enter Tryd.func23, Tryd.ntmps23
  go_wp2_with fail
  go_ret
  exact ⟨rfl, rfl⟩
set_option maxHeartbeats 1000000 in
theorem shaCloneNil_any (w : World) : Calls Tryd.prog 25 #[.pointer none] w fun e w' => e = .returned (.pointer none) ∧ w = w' := by
  go_enter Tryd.func25, Tryd.ntmps25
  go_wp2_with fail
  go_ret
  exact ⟨rfl, rfl⟩
set_option maxHeartbeats 1000000 in
theorem shaClone_any (g : Nat) (L : List UInt8) (w : World) (h : Hsh w g L) : Calls Tryd.prog 25 #[.pointer (some ⟨g, 0, none⟩)] w fun e w' => ∃ g', e = .returned (.pointer (some ⟨g', 0, none⟩)) ∧ w.heap.size ≤ g' ∧ Hsh w' g' L ∧ Below w.heap.size w w' := by
  obtain ⟨hz, hs⟩ := Go.zero_of_info zeroH
  obtain ⟨z, hzz⟩ : ∃ z, z = (hcells (Sh.sub8 Sh.H0 Sh.H0) zpart 0).toArray := ⟨_, rfl⟩
  have Hz := Lib.hid hzz
  rw [← hzz] at hz
  clear hzz
  obtain ⟨J, hJ, hb⟩ := h
  have hsz : (Tryd.prog.info? 38).map (·.size) = some (hcells (Sh.sub8 (Sh.st L) Sh.H0) (Sh.tl L ++ J) L.length).toArray.size := by
    rw [hs, List.size_toArray, hcells_len, List.length_append, hJ]
  have Hs := Lib.hid hsz
  have hzs : z.size = (hcells (Sh.sub8 (Sh.st L) Sh.H0) (Sh.tl L ++ J) L.length).toArray.size := by
    rw [Hz.out, List.size_toArray, List.size_toArray, hcells_len, hcells_len, List.length_append, hJ]; rfl
  have Hzs := Lib.hid hzs
  clear hsz hs hzs
  have hnew := Blk.new w 38 z
  go_enter Tryd.func25, Tryd.ntmps25
  go_wp2_with (first
    | (refine wpList_load_blk rfl 38 (.tmp 7) rfl g rfl 38 _ _ hb Tryd.underlying38 rfl Hs.out ?_)
    | (refine wpList_store_blk rfl 38 (.tmp 3) (.tmp 8) rfl w.heap.size _ rfl rfl 38 _ hnew Hs.out Hzs.out (hcells_all _ _ _) ?_; intro w2 hb2 hg2))
  go_ret
  exact ⟨_, rfl, Nat.le_refl _, ⟨J, hJ, hb2⟩, ((Below.refl _ _).alloc (Nat.le_refl _) _).grown hg2 (by simp) (fun k hk => by injection hk; omega)⟩
end Go.Proofs.YtmnanbcinfdbaaaDoor
end

section
namespace Go.Proofs.YtmnanbcinfdbaaaDoor
open Go.RowKit Go.Proofs.U
set_option linter.unusedVariables false

/-- a slice that does not lie in block g -/
def Off (g : Nat) (A : Option Addr) (n : Nat) : Prop := 0 < n → ∀ a, A = some a → a.block ≠ g
theorem bs_only {w w' : World} {B n g : Nat} {A : Option Addr} {bs : List UInt8} (h : BS w B A n bs) (hb : w.grownBy w' (some g)) (hB : B ≤ w.heap.size) (ho : Off g A n) : BS w' B A n bs :=
  ⟨h.1, fun hn => by
    obtain ⟨b, off, e, hlt, hc⟩ := h.2 hn
    refine ⟨b, off, e, hlt, fun j hj => ?_⟩
    have hne := ho hn _ e
    exact (World.cell?_of_block (hb.block b (by omega) (fun e2 => hne (by injection e2)))).trans (hc j hj)⟩
/-- what holds at the head of a round of Write -/
def WrAt (w : World) (g : Nat) (L bs : List UInt8) (k : Nat) (b t : Value) (wr : World) : Prop :=
  ∃ X rest J A c, X ++ rest = bs ∧ rest.length = k ∧ b = .slice A k c ∧ t = .int .i64 (((Sh.tl (L ++ X)).length : Nat) : Int) ∧ BS wr w.heap.size A k rest ∧ Off g A k ∧ k ≤ c ∧ (Sh.tl (L ++ X)).length + J.length = 64 ∧
    Blk wr g 38 (hcells (Sh.sub8 (Sh.st (L ++ X)) Sh.H0) (Sh.tl (L ++ X) ++ J) ((L.length + bs.length : Nat) : Int)).toArray ∧ w.grownBy wr (some g)

set_option maxRecDepth 100000 in
set_option maxHeartbeats 4000000 in
theorem write_any (g : Nat) (L : List UInt8) (w : World) (hk : Hsh w g L) (A : Option Addr) (n c : Nat) (bs : List UInt8) (hb : BS w w.heap.size A n bs) (ho : Off g A n) (hc : n ≤ c) (hn : L.length + n ≤ 1099511627776) (hT : Tabs w) (h1 : g ≠ 0) (h2 : g ≠ 1) :
    Calls Tryd.prog 22 #[.pointer (some ⟨g, 0, none⟩), .slice A n c] w fun e w' => e = .returned (.tuple #[]) ∧ Hsh w' g (L ++ bs) ∧ w.grownBy w' (some g) := by
  have hl := hb.1
  have c1 := hk.long
  have ht := Sh.tl_len L
  obtain ⟨ll, hll⟩ : ∃ ll, ll = L.length := ⟨_, rfl⟩
  rw [← hll] at c1 ht hn
  have HLL := Lib.hid hll
  have HT := Lib.hid ht
  have HL := Lib.hid hl
  obtain ⟨J, hJ, hblk⟩ := hk
  have f1 := hblk.frozen 72
  have hset := hcells_set (Sh.sub8 (Sh.st L) Sh.H0) (Sh.tl L ++ J) ll ((ll : Int) + n) (by rw [List.length_append]; exact hJ)
  have hblk1 := hblk.set_ 72 (.int .i64 ((ll : Int) + n))
  rw [HLL.out.symm] at hblk1
  rw [hset] at hblk1
  have HB := Lib.hid hblk1
  have hgl := hblk.lt
  clear hll ht hl hset hblk1
  go_enter Tryd.func22, Tryd.ntmps22
  go_wp2_with fail
  have hgr1 : w.grownBy (w.setCell ⟨g, 72, none⟩ (.int .i64 ((ll : Int) + n))) (some g) := only_setCell (World.grownBy.refl w _) (.inl rfl) _
  have hb1 := bs_only hb hgr1 (Nat.le_refl _) ho
  have hT1 := hT.only hgr1 h1 h2
  have hblk1 := HB.out
  generalize (w.setCell ⟨g, 72, none⟩ (.int .i64 ((ll : Int) + n))) = w1 at hgr1 hb1 hT1 hblk1 ⊢
  clear HB c1 f1 hblk
  go_loopg [1, 4] n (fun k b t wr => WrAt w g L bs k b t wr)
  case atStart => exact ⟨[], bs, J, A, c, rfl, HL.out, rfl, by rw [List.append_nil, HT.out]; simp, hb1, ho, hc, by rw [List.append_nil]; exact hJ, by rw [List.append_nil, HL.out, ← HLL.out]; simpa using hblk1, hgr1⟩
  case round =>
    clear hgr1 hb1 hT1 hblk1 hb ho hc hJ
    obtain ⟨X, rest, J, A, c, hXr, hrl, rfl, rfl, hb, ho, hc, hJ, hblk, hgr⟩ := hrel
    have HX := Lib.hid hXr
    have HR := Lib.hid hrl
    obtain ⟨M, hM⟩ : ∃ M, M = L ++ X := ⟨_, rfl⟩
    rw [← hM] at hJ hblk
    have hMl := congrArg List.length hXr
    rw [List.length_append, hrl, HL.out] at hMl
    have htm := Sh.tl_len M
    have hMlen : M.length = ll + X.length := by rw [hM, List.length_append, ← HLL.out]
    obtain ⟨a, ha⟩ : ∃ a, a = (Sh.tl M).length := ⟨_, rfl⟩
    have ha64 : a < 64 := by rw [ha, htm]; omega
    have HM := Lib.hid hM
    have HA := Lib.hid ha
    have HTM := Lib.hid htm
    have HML := Lib.hid hMlen
    clear hXr hrl
    rw [← hM, ← ha]
    clear hM ha htm hMlen
    by_cases hk0 : gk = 0
    · have hk0' : gk ≤ 0 := by omega
      go_wp2_with fail
      go_end0
      have hr0 : rest = [] := List.eq_nil_of_length_eq_zero (by rw [HR.out]; exact hk0)
      have hXb : X = bs := by rw [← HX.out, hr0, List.append_nil]
      have hMb : M = L ++ bs := by rw [HM.out, hXb]
      rw [hMb] at hJ hblk
      exact ⟨rfl, ⟨J, hJ, by rw [List.length_append]; exact hblk⟩, hgr⟩
    · have hkp : 0 < gk := by omega
      obtain ⟨q, hq⟩ : ∃ q, q = min gk (64 - a) := ⟨_, rfl⟩
      have HQ := Lib.hid hq
      clear hq hk0
      have i1 : (a : Int) ≤ 64 := by omega
      have i2 : ¬ (64 = a) := by omega
      have i3 : ¬ (a = 64) := by omega
      obtain ⟨bA, oA, rfl, hbA, -⟩ := hb.2 hkp
      have hq1 : q ≤ gk := by have := HQ.out; omega
      have hq2 : q ≤ 64 - a := by have := HQ.out; omega
      have hq3 : 0 < q := by have := HQ.out; omega
      have hxl : (rest.take q).length = q := by rw [List.length_take, HR.out]; omega
      obtain ⟨x, hx⟩ : ∃ x, x = rest.take q := ⟨_, rfl⟩
      rw [← hx] at hxl
      have hxs : x ++ rest.drop q = rest := by rw [hx, List.take_append_drop]
      have hJl : J.length = 64 - a := by rw [HA.out]; omega
      obtain ⟨cs, hcs⟩ : ∃ cs, cs = x.map bv := ⟨_, rfl⟩
      have hcl : cs.length = q := by rw [hcs, List.length_map, hxl]
      have hc1 : cs.length = Nat.min gk (64 - a) := by rw [hcl, HQ.out]
      have hc2 : 0 < cs.length → (some ⟨g, 8 + a, none⟩ : Option Addr) = some ⟨g, 8 + a, none⟩ ∧ ∃ ad, (some ⟨bA, oA, none⟩ : Option Addr) = some ad ∧ ∀ (j : Nat) v, cs[j]? = some v → wr.cell? (ad.add j) = some v := by
        intro _
        refine ⟨rfl, _, rfl, fun j v hj => ?_⟩
        rw [hcs, hx, List.getElem?_map] at hj
        obtain ⟨y, hy, rfl⟩ := Option.map_eq_some_iff.1 hj
        rw [addr_add]
        have hjq : j < q := by have := (List.getElem?_eq_some_iff.1 hy).1; rw [List.length_take] at this; omega
        rw [List.getElem?_take, if_pos hjq] at hy
        exact hb.cells j y hy
      have hc3 : 8 + a + cs.length ≤ (hcells (Sh.sub8 (Sh.st M) Sh.H0) (Sh.tl M ++ J) ((L.length + bs.length : Nat) : Int)).length := by rw [hcells_len, List.length_append, hJ, hcl]; omega
      have hc4 : ∀ v ∈ cs, v.oneCell' = true := by intro v hv; rw [hcs] at hv; obtain ⟨y, _, rfl⟩ := List.mem_map.1 hv; rfl
      have hspl : splice (hcells (Sh.sub8 (Sh.st M) Sh.H0) (Sh.tl M ++ J) ((L.length + bs.length : Nat) : Int)) (8 + a) cs = hcells (Sh.sub8 (Sh.st M) Sh.H0) (Sh.tl M ++ x ++ J.drop q) ((L.length + bs.length : Nat) : Int) := by
        rw [hcs, HA.out, hcells_splice _ _ _ _ _ hJ (by omega), hxl]
      have HC := Lib.hid (And.intro hc1 (And.intro hc2 (And.intro hc3 (And.intro hc4 (And.intro hcl hspl)))))
      have HXS := Lib.hid (And.intro hxs hxl)
      have HXX := Lib.hid hx
      have HJL := Lib.hid hJl
      have hTr := hT.only hgr h1 h2
      obtain ⟨long, hlong⟩ : ∃ long : Int, long = ((L.length + bs.length : Nat) : Int) := ⟨_, rfl⟩
      rw [← hlong] at HC hblk
      have HLO := Lib.hid hlong
      have hsz1 : (Tryd.prog.info? 5).map (·.size) = some 1 := by kernel_rfl
      have HZ := Lib.hid hsz1
      have hbd := (hb.drop (k := q) hq1)
      have hod : Off g (some ⟨bA, oA + q, none⟩) (gk - q) := fun h a e => by injection e with e; subst e; exact ho hkp ⟨bA, oA, none⟩ rfl
      have hwz := hgr.size
      clear hc1 hc2 hc3 hc4 hcl hspl hcs hxs hxl hx hJl hlong hsz1
      have i4 : (q : Int) ≤ (gk : Int) := by omega
      have i5 : (q : Int) ≤ (c : Int) := by omega
      have ways : (a + q = 64 ∧ c = q) ∨ (a + q = 64 ∧ c ≠ q) ∨ (a + q < 64 ∧ c = q) ∨ (a + q < 64 ∧ c ≠ q) := by omega
      rcases ways with ⟨hw, hcq⟩ | ⟨hw, hcq⟩ | ⟨hw, hcq⟩ | ⟨hw, hcq⟩
      all_goals
        first
          | (have t64 : (((a : Int) + (q : Int)) == 64) = true := by rw [beq_iff_eq]; omega)
          | (have t64 : (((a : Int) + (q : Int)) == 64) = false := by rw [beq_eq_false_iff_ne]; omega)
        have HW := Lib.hid hw
        clear hw
        first
          | (have hcq' := hcq.symm; subst hcq')
          | skip
        go_wp2_with (refine wpList_copy_into rfl (.tmp 29) (.tmp 30) 22 22 rfl 5 Tryd.underlying22 HZ.out _ _ _ _ _ _ rfl rfl g (8 + a) _ 38 hblk cs HC.out.1 HC.out.2.1 HC.out.2.2.1 HC.out.2.2.2.1 ?_; intro w2 hb2 hg2; rw [HC.out.2.2.2.2.1]; rw [HC.out.2.2.2.2.2] at hb2)
        have hgr2 := only_trans hgr hg2
        have hbd2 := bs_only hbd hg2 hwz hod
        first
          | (have hq64 : q = 64 - a := by have := HW.out; omega
             have hJ0 : J.drop q = [] := List.drop_of_length_le (by rw [HJL.out]; omega)
             rw [hJ0, List.append_nil] at hb2
             have hpl : (Sh.tl M ++ x).length = 64 := by rw [List.length_append, HXS.out.2, ← HA.out]; have := HW.out; omega
             have hbp : BS w2 w2.heap.size (some ⟨g, 8, none⟩) 64 (Sh.tl M ++ x) := by
               refine ⟨hpl, fun _ => ⟨g, 8, rfl, hb2.lt, fun j hj => ?_⟩⟩
               rw [hb2.cell, List.getElem?_toArray]
               exact hcells_part _ _ _ j _ (by simp)
             refine (mix_any g (Sh.st M) (Sh.tl M ++ x) long (some ⟨g, 8, none⟩) 64 (Sh.tl M ++ x) w2 hb2 hbp (Nat.le_refl _) (hTr.only hg2 h1 h2) h1 h2).mono ?_
             rintro e w3 ⟨rfl, hb3, hg3⟩
             obtain ⟨hst, htl⟩ := Sh.st_full M x (by rw [HXS.out.2, ← HTM.out, ← HA.out]; exact HW.out)
             have HS := Lib.hid (And.intro hst htl)
             have HPL := Lib.hid hpl
             have hbd3 := bs_only hbd2 hg3 (Nat.le_trans hwz hg2.size) hod
             clear hst htl hpl hJ0 hq64 hbp
             go_wp2_with fail
             go_roundg (gk - q)
             case measure => omega
             case rel =>
               have hMx : L ++ (X ++ x) = M ++ x := by rw [HM.out, List.append_assoc]
               refine ⟨X ++ x, rest.drop q, Sh.tl M ++ x, _, _, by rw [List.append_assoc, HXS.out.1, HX.out], by rw [List.length_drop, HR.out], by first | rfl | (rw [show gk - q = 0 by omega]), by rw [hMx, HS.out.2]; rfl, ?_, ?_, ?_, by rw [hMx, HS.out.2, HPL.out]; rfl, by rw [hMx, HS.out.1, HS.out.2, ← HLO.out, List.nil_append]; exact hb3, only_trans hgr2 hg3⟩
               · first | exact hbd3 | (rw [show gk - q = 0 by omega, List.drop_of_length_le (by rw [HR.out]; omega)]; exact BS.nil _ _ _)
               · first | exact hod | (intro h0; exfalso; omega)
               · omega)
          | (obtain ⟨hst, htl⟩ := Sh.st_small M x (by rw [HXS.out.2, ← HTM.out, ← HA.out]; exact HW.out)
             have HS := Lib.hid (And.intro hst htl)
             clear hst htl
             go_roundg (gk - q)
             case measure => omega
             case rel =>
               have hMx : L ++ (X ++ x) = M ++ x := by rw [HM.out, List.append_assoc]
               refine ⟨X ++ x, rest.drop q, J.drop q, _, _, by rw [List.append_assoc, HXS.out.1, HX.out], by rw [List.length_drop, HR.out], by first | rfl | (rw [show gk - q = 0 by omega]), ?_, ?_, ?_, ?_, ?_, by rw [hMx, HS.out.1, HS.out.2, ← HLO.out]; exact hb2, hgr2⟩
               · rw [hMx, HS.out.2, List.length_append, HXS.out.2, ← HA.out]; go_num
               · first | exact hbd2 | (rw [show gk - q = 0 by omega, List.drop_of_length_le (by rw [HR.out]; omega)]; exact BS.nil _ _ _)
               · first | exact hod | (intro h0; exfalso; omega)
               · omega
               · rw [hMx, HS.out.2, List.length_append, HXS.out.2, ← HA.out, List.length_drop, HJL.out]; omega)
end Go.Proofs.YtmnanbcinfdbaaaDoor
end

section
namespace Go.Proofs.YtmnanbcinfdbaaaDoor
open Go.RowKit Go.Proofs.U
set_option linter.unusedVariables false

section
variable {P : Program} {w : World}
/-- make of bytes, all of it there -/
theorem wpList_makeb {t e : TypeId} (hB : Bt P t e) {ops : Array Oper} {rest : List Oper} {o : Oper} {a : Act} {Q : Exit → Act → World → Prop} (hg : o.guard = none) (l c : Operand) (hop : o.op = Op.makeSlice t l c)
    (n : Nat) (L : Int) (hl : a.eval l = .int .i64 L) (hc : a.eval c = .int .i64 L) (hL : L = (n : Int)) (b2 : n ≤ 140737488355328)
    (hK : ∀ w', Own w' w.heap.size e (some ⟨w.heap.size, 0, none⟩) n n (List.replicate n 0) → Below w.heap.size w w' → wpList P ops Q rest (a.put o.dst (.slice (some ⟨w.heap.size, 0, none⟩) n n)) w') :
    wpList P ops Q (o :: rest) a w := by
  obtain ⟨i, hi, hz, hs, hby⟩ := info_parts hB.hi
  refine wpList_make_full w hg l c t hop w.heap.size e i (.int .u8 0) 1 hB.ht hi hz hs .i64 .i64 L L n hl hc hL hL (by rw [hby]; omega) (by unfold maxLen; omega) (Nat.le_refl _) fun w' h1 h2 => ?_
  refine hK w' ?_ ⟨h2.os, h2.tape, h2.output, h2.size, fun k hk => h2.block k hk (by simp)⟩
  unfold Own
  have e : (madeCells (Value.int .u8 0).cells (n * 1)).toList = (List.replicate n (0 : UInt8)).map bv := by
    rw [show (Value.int .u8 0).cells = #[.int .u8 0] from rfl, toList_madeCells_one, List.map_replicate, Nat.mul_one]; rfl
  rw [← e]; exact h1
end
def e8 (n k : Nat) : List UInt8 := (Sh.eightb n).take k ++ List.replicate (8 - k) 0
theorem e8_set (n k : Nat) (h : k < 8) : (e8 n k).set k (UInt8.ofNat (n / 256 ^ (7 - k))) = e8 n (k + 1) := by
  match k, h with
  | 0, _ => rfl
  | 1, _ => rfl
  | 2, _ => rfl
  | 3, _ => rfl
  | 4, _ => rfl
  | 5, _ => rfl
  | 6, _ => rfl
  | 7, _ => rfl
theorem e8_at (n k : Nat) (h : k < 8) : ∃ v, (e8 n k)[k]? = some v := by
  have : k < (e8 n k).length := by simp [e8, Sh.eightb_len]; omega
  exact ⟨_, List.getElem?_eq_getElem this⟩
theorem byte_of (n d : Nat) (D : Int) (hD : D = (d : Int)) : ((n : Int) / D) % 256 = ((UInt8.ofNat (n / d)).toNat : Int) := by
  subst hD; rw [UInt8.toNat_ofNat', ← Int.natCast_ediv]; omega

set_option maxRecDepth 100000 in
set_option maxHeartbeats 4000000 in
theorem eight_any (n : Nat) (hn : n ≤ 9223372036854775807) (w : World) : Calls Tryd.prog 68 #[.int .i64 (n : Int)] w (OwnRet 5 w 8 (Sh.eightb n)) := by
  have hcv : IntKind.u64.wrap (n : Int) = (n : Int) := by rw [IntKind.wrap_u64]; omega
  go_enter Tryd.func68, Tryd.ntmps68
  go_wp2_with (refine wpList_makeb bt rfl _ _ rfl 8 _ rfl rfl rfl (by omega) ?_; intro w1 hown1 hb1)
  go_loopg [8] 8 (fun r i wr => ∃ k : Nat, r + k = 8 ∧ i = .int .i64 k ∧ Own wr w.heap.size 5 (some ⟨w.heap.size, 0, none⟩) 8 8 (e8 n k) ∧ Below w.heap.size w wr)
  case atStart => exact ⟨0, rfl, rfl, hown1, hb1⟩
  case round =>
    obtain ⟨k, hk, rfl, hown, hbw⟩ := hrel
    have HK := Lib.hid hk
    by_cases h8 : k < 8
    · obtain ⟨v, hv⟩ := e8_at n k h8
      have hv := hown.cellAt k v hv
      have hfr := hown.free k
      have hset := e8_set n k h8
      have HS := Lib.hid hset
      clear hset hk
      have hks : k = 0 ∨ k = 1 ∨ k = 2 ∨ k = 3 ∨ k = 4 ∨ k = 5 ∨ k = 6 ∨ k = 7 := by omega
      rcases hks with rfl | rfl | rfl | rfl | rfl | rfl | rfl | rfl
      · go_wp2_with fail
        have e : ((n : Int) / 72057594037927936) = ((UInt8.ofNat (n / 256 ^ (7 - 0))).toNat : Int) := by rw [UInt8.toNat_ofNat', show 256 ^ (7 - 0) = 72057594037927936 from by decide]; omega
        go_roundg (gk - 1)
        case measure => have := HK.out; omega
        case rel =>
          refine ⟨1, by have := HK.out; omega, rfl, ?_, hbw.setCell (by simp) _⟩
          have h1 := hown.set 0 (UInt8.ofNat (n / 256 ^ (7 - 0)))
          rw [HS.out, ← e] at h1
          exact h1
      · go_wp2_with fail
        have e : ((n : Int) / 281474976710656 % 256) = ((UInt8.ofNat (n / 256 ^ (7 - 1))).toNat : Int) := by rw [UInt8.toNat_ofNat', show 256 ^ (7 - 1) = 281474976710656 from by decide]; omega
        go_roundg (gk - 1)
        case measure => have := HK.out; omega
        case rel =>
          refine ⟨2, by have := HK.out; omega, rfl, ?_, hbw.setCell (by simp) _⟩
          have h1 := hown.set 1 (UInt8.ofNat (n / 256 ^ (7 - 1)))
          rw [HS.out, ← e] at h1
          exact h1
      · go_wp2_with fail
        have e : ((n : Int) / 1099511627776 % 256) = ((UInt8.ofNat (n / 256 ^ (7 - 2))).toNat : Int) := by rw [UInt8.toNat_ofNat', show 256 ^ (7 - 2) = 1099511627776 from by decide]; omega
        go_roundg (gk - 1)
        case measure => have := HK.out; omega
        case rel =>
          refine ⟨3, by have := HK.out; omega, rfl, ?_, hbw.setCell (by simp) _⟩
          have h1 := hown.set 2 (UInt8.ofNat (n / 256 ^ (7 - 2)))
          rw [HS.out, ← e] at h1
          exact h1
      · go_wp2_with fail
        have e : ((n : Int) / 4294967296 % 256) = ((UInt8.ofNat (n / 256 ^ (7 - 3))).toNat : Int) := by rw [UInt8.toNat_ofNat', show 256 ^ (7 - 3) = 4294967296 from by decide]; omega
        go_roundg (gk - 1)
        case measure => have := HK.out; omega
        case rel =>
          refine ⟨4, by have := HK.out; omega, rfl, ?_, hbw.setCell (by simp) _⟩
          have h1 := hown.set 3 (UInt8.ofNat (n / 256 ^ (7 - 3)))
          rw [HS.out, ← e] at h1
          exact h1
      · go_wp2_with fail
        have e : ((n : Int) / 16777216 % 256) = ((UInt8.ofNat (n / 256 ^ (7 - 4))).toNat : Int) := by rw [UInt8.toNat_ofNat', show 256 ^ (7 - 4) = 16777216 from by decide]; omega
        go_roundg (gk - 1)
        case measure => have := HK.out; omega
        case rel =>
          refine ⟨5, by have := HK.out; omega, rfl, ?_, hbw.setCell (by simp) _⟩
          have h1 := hown.set 4 (UInt8.ofNat (n / 256 ^ (7 - 4)))
          rw [HS.out, ← e] at h1
          exact h1
      · go_wp2_with fail
        have e : ((n : Int) / 65536 % 256) = ((UInt8.ofNat (n / 256 ^ (7 - 5))).toNat : Int) := by rw [UInt8.toNat_ofNat', show 256 ^ (7 - 5) = 65536 from by decide]; omega
        go_roundg (gk - 1)
        case measure => have := HK.out; omega
        case rel =>
          refine ⟨6, by have := HK.out; omega, rfl, ?_, hbw.setCell (by simp) _⟩
          have h1 := hown.set 5 (UInt8.ofNat (n / 256 ^ (7 - 5)))
          rw [HS.out, ← e] at h1
          exact h1
      · go_wp2_with fail
        have e : ((n : Int) / 256 % 256) = ((UInt8.ofNat (n / 256 ^ (7 - 6))).toNat : Int) := by rw [UInt8.toNat_ofNat', show 256 ^ (7 - 6) = 256 from by decide]; omega
        go_roundg (gk - 1)
        case measure => have := HK.out; omega
        case rel =>
          refine ⟨7, by have := HK.out; omega, rfl, ?_, hbw.setCell (by simp) _⟩
          have h1 := hown.set 6 (UInt8.ofNat (n / 256 ^ (7 - 6)))
          rw [HS.out, ← e] at h1
          exact h1
      · go_wp2_with fail
        have e : ((n : Int) % 256) = ((UInt8.ofNat (n / 256 ^ (7 - 7))).toNat : Int) := by rw [UInt8.toNat_ofNat', show 256 ^ (7 - 7) = 1 from by decide]; omega
        go_roundg (gk - 1)
        case measure => have := HK.out; omega
        case rel =>
          refine ⟨8, by have := HK.out; omega, rfl, ?_, hbw.setCell (by simp) _⟩
          have h1 := hown.set 7 (UInt8.ofNat (n / 256 ^ (7 - 7)))
          rw [HS.out, ← e] at h1
          exact h1
    · obtain rfl : k = 8 := by omega
      go_wp2_with fail
      go_ret
      have e : e8 n 8 = Sh.eightb n := by unfold e8; rw [List.take_of_length_le (by rw [Sh.eightb_len]; omega)]; simp
      rw [e] at hown
      exact ⟨_, _, rfl, hown, hbw⟩
end Go.Proofs.YtmnanbcinfdbaaaDoor
end
