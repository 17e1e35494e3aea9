/- The walk of sha.mix; conditions: none beyond its hypotheses. -/
import Derived.Test.YtmnanbcinfdbaaaDoorSh2
namespace Go.Proofs.YtmnanbcinfdbaaaDoor
open Go.RowKit Go.Proofs.U
set_option linter.unusedVariables false

def Hc (i : Nat) : BitVec 32 := BitVec.ofNat 32 (Sh.hl.getD i 0)
/-- the tables of the package sha, as the program lays them -/
def Tabs (w : World) : Prop := (∀ j, j < 8 → w.cell? ⟨0, j, none⟩ = some (uv (Hc j))) ∧ ∀ j, j < 64 → w.cell? ⟨1, j, none⟩ = some (uv (Sh.K j))
theorem Tabs.keep {w w' : World} (h : Tabs w) (hk : ∀ b, b = 0 ∨ b = 1 → w'.heap[b]? = w.heap[b]?) : Tabs w' :=
  ⟨fun j hj => (World.cell?_of_block (hk _ (.inl rfl))).trans (h.1 j hj), fun j hj => (World.cell?_of_block (hk _ (.inr rfl))).trans (h.2 j hj)⟩
theorem Tabs.lt {w : World} (h : Tabs w) : 0 < w.heap.size ∧ 1 < w.heap.size :=
  ⟨World.block_lt_of_cell? w _ (h.1 0 (by omega)), World.block_lt_of_cell? w _ (h.2 0 (by omega))⟩
theorem Tabs.stay {w w' : World} {B : Nat} (h : Tabs w) (hb : Below B w w') (hB : w.heap.size ≤ B := by exact Nat.le_refl _) : Tabs w' :=
  h.keep fun b hb' => hb.block b (by have := h.lt; rcases hb' with rfl | rfl <;> omega)
theorem Tabs.only {w w' : World} {g : Nat} (h : Tabs w) (hg : w.grownBy w' (some g)) (h1 : g ≠ 0) (h2 : g ≠ 1) : Tabs w' :=
  h.keep fun b hb' => hg.block b (by have := h.lt; rcases hb' with rfl | rfl <;> omega) (fun e => by injection e with e; rcases hb' with rfl | rfl <;> omega)
theorem Tabs.drew {w w' : World} (h : Tabs w) (hd : Drawn w w') : Tabs w' := by obtain ⟨q, rfl⟩ := hd; exact h

theorem run_index_arr {P : Program} (w : World) (t e : TypeId) (n : Nat) (cs : Array Value) (k : IntKind) (i : Nat) (v : Value) (h : P.underlying t = some (.array n e)) (hu : P.underlying e = some (.int .u32)) (he : (P.info? e).map (·.size) = some 1) (hi : i < n) (hv : cs[i]? = some v) :
    (Instr.index t (.agg cs) (.int k (i : Int))).run P w = .ok v w := by
  cases hq : P.info? e with
  | none => simp [hq] at he
  | some inf =>
    have hs : inf.size = 1 := by simpa [hq] using he
    simp [Instr.index, run_underlying h, run_underlying hu, asIntOf, hi, sizeOf, typeInfo, hq, hs, part, isAgg, hv]

/-- a hash's cells -/
def hcells (s : Sh.V8) (p : List UInt8) (long : Int) : List Value := s.l.map uv ++ (p.map bv ++ [.int .i64 long])
theorem hcells_len (s : Sh.V8) (p : List UInt8) (long : Int) : (hcells s p long).length = 9 + p.length := by simp [hcells, Sh.V8.l]; omega
theorem v8_len (s : Sh.V8) : s.l.length = 8 := rfl
theorem hcells_state (s : Sh.V8) (p : List UInt8) (long : Int) (i : Nat) (x : BitVec 32) (h : s.l[i]? = some x) : (hcells s p long)[i]? = some (uv x) := by
  unfold hcells
  have hl := (List.getElem?_eq_some_iff.1 h).1
  rw [List.getElem?_append_left (by simpa using hl), List.getElem?_map, h]; rfl
def vcells (v : Sh.V8) : Array Value := #[uv v.a, uv v.b, uv v.c, uv v.d, uv v.e, uv v.f, uv v.g, uv v.h]
theorem vcells_eq (v : Sh.V8) : wl v.l 0 = vcells v := rfl
theorem H0_at (i : Nat) (h : i < 8) : Sh.H0.l[i]? = some (Hc i) := by
  match i, h with
  | 0, _ => rfl
  | 1, _ => rfl
  | 2, _ => rfl
  | 3, _ => rfl
  | 4, _ => rfl
  | 5, _ => rfl
  | 6, _ => rfl
  | 7, _ => rfl
theorem sub8_at (x y : Sh.V8) (i : Nat) (a b : BitVec 32) (ha : x.l[i]? = some a) (hb : y.l[i]? = some b) : (Sh.sub8 x y).l[i]? = some (a - b) := by
  have hl := (List.getElem?_eq_some_iff.1 ha).1
  match i, hl with
  | 0, _ => simp [Sh.V8.l] at ha hb; subst ha; subst hb; rfl
  | 1, _ => simp [Sh.V8.l] at ha hb; subst ha; subst hb; rfl
  | 2, _ => simp [Sh.V8.l] at ha hb; subst ha; subst hb; rfl
  | 3, _ => simp [Sh.V8.l] at ha hb; subst ha; subst hb; rfl
  | 4, _ => simp [Sh.V8.l] at ha hb; subst ha; subst hb; rfl
  | 5, _ => simp [Sh.V8.l] at ha hb; subst ha; subst hb; rfl
  | 6, _ => simp [Sh.V8.l] at ha hb; subst ha; subst hb; rfl
  | 7, _ => simp [Sh.V8.l] at ha hb; subst ha; subst hb; rfl
theorem add8_at (x y : Sh.V8) (i : Nat) (a b : BitVec 32) (ha : x.l[i]? = some a) (hb : y.l[i]? = some b) : (Sh.add8 x y).l[i]? = some (a + b) := by
  have hl := (List.getElem?_eq_some_iff.1 ha).1
  match i, hl with
  | 0, _ => simp [Sh.V8.l] at ha hb; subst ha; subst hb; rfl
  | 1, _ => simp [Sh.V8.l] at ha hb; subst ha; subst hb; rfl
  | 2, _ => simp [Sh.V8.l] at ha hb; subst ha; subst hb; rfl
  | 3, _ => simp [Sh.V8.l] at ha hb; subst ha; subst hb; rfl
  | 4, _ => simp [Sh.V8.l] at ha hb; subst ha; subst hb; rfl
  | 5, _ => simp [Sh.V8.l] at ha hb; subst ha; subst hb; rfl
  | 6, _ => simp [Sh.V8.l] at ha hb; subst ha; subst hb; rfl
  | 7, _ => simp [Sh.V8.l] at ha hb; subst ha; subst hb; rfl
def hcl (l : List (BitVec 32)) (p : List UInt8) (long : Int) : List Value := l.map uv ++ (p.map bv ++ [.int .i64 long])
theorem hcl_step (old new : List (BitVec 32)) (p : List UInt8) (long : Int) (k : Nat) (a b : BitVec 32) (ha : old[k]? = some a) (hb : new[k]? = some b) (hl : old.length = new.length) :
    (hcl (new.take k ++ old.drop k) p long).toArray[k]? = some (uv a) ∧ (hcl (new.take k ++ old.drop k) p long).toArray.setIfInBounds k (uv b) = (hcl (new.take (k + 1) ++ old.drop (k + 1)) p long).toArray := by
  have hk := (List.getElem?_eq_some_iff.1 ha).1
  have hd : old.drop k = a :: old.drop (k + 1) := by
    obtain ⟨h1, h2⟩ := List.getElem?_eq_some_iff.1 ha
    rw [List.drop_eq_getElem_cons h1, h2]
  have ht : new.take (k + 1) = new.take k ++ [b] := by rw [List.take_add_one, hb]; rfl
  have htl : (new.take k).length = k := by rw [List.length_take]; omega
  rw [hd, ht]
  unfold hcl
  constructor
  · rw [List.getElem?_toArray, List.map_append, List.getElem?_append_left (by simp; omega), List.getElem?_append_right (by rw [List.length_map]; omega), List.length_map, htl, Nat.sub_self]
    rfl
  · rw [List.setIfInBounds_toArray, List.map_append, List.set_append_left _ _ (by simp; omega), List.set_append_right _ _ (by rw [List.length_map]; omega), List.length_map, htl, Nat.sub_self]
    simp
theorem _root_.Go.Proofs.U.Blk.cell' {w : World} {g : Nat} {t : TypeId} {cs : Array Value} (h : Blk w g t cs) {i : Nat} : w.cell? ⟨g, i, none⟩ = cs[i]? := h.cell i
theorem zero8 : (Tryd.prog.info? 35).map (fun i => (i.zero, i.size)) = some (some (.agg (wl [] 8)), 8) := by kernel_rfl

set_option maxRecDepth 100000 in
set_option maxHeartbeats 4000000 in
theorem mix_any (g : Nat) (s : Sh.V8) (p : List UInt8) (long : Int) (A : Option Addr) (c : Nat) (m : List UInt8) (w : World) (hh : Blk w g 38 (hcells (Sh.sub8 s Sh.H0) p long).toArray) (hb : BS w w.heap.size A 64 m) (hc : 64 ≤ c) (hT : Tabs w) (h1 : g ≠ 0) (h2 : g ≠ 1) :
    Calls Tryd.prog 67 #[.pointer (some ⟨g, 0, none⟩), .slice A 64 c] w fun e w' => e = .returned (.tuple #[]) ∧ Blk w' g 38 (hcells (Sh.sub8 (Sh.mixv s m) Sh.H0) p long).toArray ∧ w.grownBy w' (some g) := by
  obtain ⟨hz64, hs64⟩ := Go.zero_of_info zero64
  obtain ⟨hz8, hs8⟩ := Go.zero_of_info zero8
  obtain ⟨z64, hzz⟩ : ∃ z, z = wl [] 64 := ⟨_, rfl⟩
  have Hz64 := Lib.hid hzz
  rw [← hzz] at hz64
  clear hzz
  obtain ⟨z8, hzz⟩ : ∃ z, z = wl [] 8 := ⟨_, rfl⟩
  have Hz8 := Lib.hid hzz
  rw [← hzz] at hz8
  clear hzz
  have HS := Lib.hid (And.intro hs64 hs8)
  clear hs64 hs8
  go_enter Tryd.func67, Tryd.ntmps67
  go_wp2_with fail
  refine (spread_any A c m w _ hb (Nat.le_refl _) hc).mono ?_
  rintro e w1 ⟨rfl, hb1⟩
  have hblk1 := Blk.new w1 130 z64
  go_wp2_with (refine wpList_store_blk rfl 130 (.tmp 4) (.tmp 15) rfl _ _ rfl rfl _ _ hblk1 (by rw [wl_size, Sh.sched_len]; exact HS.out.1) (by rw [wl_size, Sh.sched_len, Hz64.out]; rfl) (wl_all _ _) ?_; intro w2 hb2 hg2)
  have hb12 : Below w.heap.size w (w1.alloc (.cells z64 130)) := hb1.alloc hb1.size _
  have hgl := hh.lt
  have hb2' : Below w.heap.size w w2 := hb12.grown hg2 hb12.size (fun k hk => by injection hk with hk; subst hk; exact hb1.size)
  have hv2 : w1.heap.size < w2.heap.size := hb2.lt
  have hb3 : Below w.heap.size w (w2.alloc (.cells z8 35)) := hb2'.alloc hb2'.size _
  have hh3 : Blk (w2.alloc (.cells z8 35)) g 38 (hcells (Sh.sub8 s Sh.H0) p long).toArray := hh.stay hb3
  have hw3 : Blk (w2.alloc (.cells z8 35)) w1.heap.size 130 (wl (Sh.sched m) 0) := hb2.alloc _
  have hv3 : Blk (w2.alloc (.cells z8 35)) w2.heap.size 35 (wl [] 8) := by have := Blk.new w2 35 z8; rw [Hz8.out] at this ⊢; exact this
  have hT3 : Tabs (w2.alloc (.cells z8 35)) := hT.stay hb3
  have hws : w.heap.size ≤ w1.heap.size := hb1.size
  generalize (w2.alloc (.cells z8 35)) = w3 at hb3 hh3 hw3 hv3 hT3 ⊢
  clear hz64 hz8 hblk1 hb2 hg2 hb12 hb2'
  have hv0 := hv3.lt
  go_loopg [16] 8 (fun r i wr => ∃ k : Nat, r + k = 8 ∧ i = .int .i64 k ∧ Blk wr w2.heap.size 35 (wl (s.l.take k) (8 - k)) ∧ w3.grownBy wr (some w2.heap.size))
  case atStart => exact ⟨0, rfl, rfl, hv3, World.grownBy.refl _ _⟩
  case round =>
    obtain ⟨k, hgk, rfl, hvr, hgr⟩ := hrel
    have HGK := Lib.hid hgk
    obtain ⟨wo, rfl⟩ : ∃ wo : World, wo = wr := ⟨_, rfl⟩
    by_cases hk : k < 8
    · clear hgk
      have hhr := hh3.grown hgr (by intro e; injection e; omega)
      have hTr := hT3.only hgr (by have := hT.lt; omega) (by have := hT.lt; omega)
      obtain ⟨x, hx⟩ : ∃ x, s.l[k]? = some x := ⟨_, List.getElem?_eq_getElem (by rw [v8_len]; exact hk)⟩
      have hst := hcells_state _ p long k _ (sub8_at s Sh.H0 k x (Hc k) hx (H0_at k hk))
      have e1 : wo.cell? ⟨g, k, none⟩ = some (.int .u32 (((x - Hc k : BitVec 32)).toNat : Int)) := by rw [hhr.cell, List.getElem?_toArray]; exact hst
      have e2 : wo.cell? ⟨0, k, none⟩ = some (.int .u32 ((Hc k).toNat : Int)) := hTr.1 k hk
      have hl : (s.l.take k).length = k := by rw [List.length_take, v8_len]; omega
      have e3 := wl_zero (s.l.take k) (7 - k + 1) (by omega)
      rw [hl] at e3
      rw [show 8 - k = 7 - k + 1 by omega] at hvr
      rw [← hvr.cell] at e3
      have hnew := wl_set (s.l.take k) (7 - k) x
      rw [hl] at hnew
      have htk : s.l.take k ++ [x] = s.l.take (k + 1) := by rw [List.take_add_one, hx]; rfl
      rw [htk] at hnew
      have hadd : ad (x - Hc k) (Hc k) = x := BitVec.sub_add_cancel _ _
      have HA := Lib.hid (And.intro e1 (And.intro e2 e3))
      have HN := Lib.hid (And.intro hnew hadd)
      obtain ⟨y, hy⟩ : ∃ y : BitVec 32, y = x - Hc k := ⟨_, rfl⟩
      rw [← hy] at HA HN
      obtain ⟨h, hhc⟩ : ∃ h : BitVec 32, h = Hc k := ⟨_, rfl⟩
      rw [← hhc] at HA HN
      clear e1 e2 e3 hnew htk hadd hst hx hl hy hhc
      go_wp2_with fail
      refine wp_region_class_tail (C := fun w' => Drawn wo w') 12 (by kernel_rfl) (by kernel_rfl) (Drawn.one _) ?_
      simp only [List.take_succ_cons, List.take_zero, List.drop_succ_cons, List.drop_zero]
      repeat
        (refine wpQuiet_step (fun K hK => ?_)
         rw [if_pos (by rfl)]
         apply Exists.intro
         refine ⟨fun w' hw' => ?_, hK _ ?_⟩
         · have e1 := (hw'.cell _).trans HA.out.1
           have e2 := (hw'.cell _).trans HA.out.2.1
           go_simp
           first
             | done
             | rfl
         clear hK K
         go_simp)
      refine wpQuiet_nil ?_
      intro w4 hw4
      have e5 := (hw4.cell _).trans HA.out.2.2
      have hvr4 : Blk w4 w2.heap.size 35 (wl (s.l.take k) (7 - k + 1)) := by obtain ⟨q, rfl⟩ := hw4; exact hvr
      have hgr4 : w3.grownBy w4 (some w2.heap.size) := by obtain ⟨q, rfl⟩ := hw4; exact only_drewN hgr _
      have hfr := hvr4.frozen k
      go_wp2_with fail
      go_roundg (gk - 1)
      case measure => have := HGK.out; omega
      case rel =>
        refine ⟨k + 1, by have := HGK.out; omega, by go_num, ?_, only_setCell hgr4 (.inl rfl) _⟩
        have h1 := hvr4.set_ k (uv (ad y h))
        rw [HN.out.2, HN.out.1, show 7 - k = 8 - (k + 1) by omega] at h1
        rw [HN.out.2]
        exact h1
    · obtain rfl : k = 8 := by omega
      go_wp2_with fail
      have hvs : Blk wo w2.heap.size 35 (vcells s) := hvr
      clear hvr hgk HGK hk
      go_loopg [32] 64 (fun r i wr => ∃ k : Nat, r + k = 64 ∧ i = .int .i64 k ∧ Blk wr w2.heap.size 35 (vcells (Sh.rds (Sh.sched m) s k)) ∧ w3.grownBy wr (some w2.heap.size))
      case atStart => exact ⟨0, rfl, rfl, hvs, hgr⟩
      case round =>
        clear hvs hgr
        obtain ⟨k, hgk, rfl, hvr, hgr⟩ := hrel
        have HGK := Lib.hid hgk
        obtain ⟨wp, rfl⟩ : ∃ wp : World, wp = wr := ⟨_, rfl⟩
        by_cases hk : k < 64
        · clear hgk
          have hTr := hT3.only hgr (by have := hT.lt; omega) (by have := hT.lt; omega)
          have hwr := hw3.grown hgr (by intro e; injection e; omega)
          obtain ⟨x, hx⟩ : ∃ x, (Sh.sched m)[k]? = some x := ⟨_, List.getElem?_eq_getElem (by rw [Sh.sched_len]; exact hk)⟩
          have hrd : Sh.rds (Sh.sched m) s (k + 1) = Sh.rnd (Sh.rds (Sh.sched m) s k) (Sh.K k) x := by
            show Sh.rnd _ (Sh.K k) ((Sh.sched m).getD k 0#32) = _
            simp only [List.getD, hx, Option.getD_some]
          have q1 : wp.cell? ⟨1, k, none⟩ = some (.int .u32 ((Sh.K k).toNat : Int)) := hTr.2 k hk
          have q2 : wp.cell? ⟨w1.heap.size, k, none⟩ = some (.int .u32 (x.toNat : Int)) := by rw [hwr.cell]; exact wl_at _ _ _ _ hx
          generalize Sh.rds (Sh.sched m) s k = v at hvr hrd
          obtain ⟨va, vb, vc, vd, ve, vf, vg, vh⟩ := v
          have HRD := Lib.hid hrd
          obtain ⟨kk, hkk⟩ : ∃ kk, kk = Sh.K k := ⟨_, rfl⟩
          rw [← hkk] at q1 HRD
          clear hrd hx hkk
          have c0 : wp.cell? ⟨w2.heap.size, 0, none⟩ = some (.int .u32 (va.toNat : Int)) := hvr.cell 0
          have c1 : wp.cell? ⟨w2.heap.size, 1, none⟩ = some (.int .u32 (vb.toNat : Int)) := hvr.cell 1
          have c2 : wp.cell? ⟨w2.heap.size, 2, none⟩ = some (.int .u32 (vc.toNat : Int)) := hvr.cell 2
          have c3 : wp.cell? ⟨w2.heap.size, 3, none⟩ = some (.int .u32 (vd.toNat : Int)) := hvr.cell 3
          have c4 : wp.cell? ⟨w2.heap.size, 4, none⟩ = some (.int .u32 (ve.toNat : Int)) := hvr.cell 4
          have c5 : wp.cell? ⟨w2.heap.size, 5, none⟩ = some (.int .u32 (vf.toNat : Int)) := hvr.cell 5
          have c6 : wp.cell? ⟨w2.heap.size, 6, none⟩ = some (.int .u32 (vg.toNat : Int)) := hvr.cell 6
          have c7 : wp.cell? ⟨w2.heap.size, 7, none⟩ = some (.int .u32 (vh.toNat : Int)) := hvr.cell 7
          have HQ := Lib.hid (And.intro q1 q2)
          clear q1 q2
          go_wp2_with fail
          refine wp_region_class (C := fun w' => Drawn wp w') (by kernel_rfl) (by kernel_rfl) (Drawn.one _) ?_
          repeat
            (refine wpQuiet_step (fun K hK => ?_)
             rw [if_pos (by rfl)]
             apply Exists.intro
             refine ⟨fun w' hw' => ?_, hK _ ?_⟩
             · have e1 := (hw'.cell _).trans HQ.out.1
               have e2 := (hw'.cell _).trans HQ.out.2
               have e3 := (hw'.cell _).trans c4
               have e4 := (hw'.cell _).trans c7
               go_simp
               first
                 | done
                 | (with_reducible refine (turnA ve w').mono ?_
                    rintro e' w1 ⟨rfl, rfl⟩
                    exact ⟨rfl, hw'⟩)
                 | rfl
             clear hK K
             try unfold uv
             go_simp)
          refine wpQuiet_nil ?_
          intro w4 hw4
          obtain ⟨q, rfl⟩ := hw4
          go_wp2_with fail
          refine (turnB va _).mono ?_
          rintro e' w' ⟨rfl, rfl⟩
          unfold uv
          have hvr4 := hvr.drewN q
          go_wp2_with (refine wpList_store_blk rfl 35 (.tmp 5) (.tmp 104) rfl w2.heap.size _ rfl rfl 35 _ hvr4 ?s3 ?s4 ?s5 ?s6)
          case s3 => exact HS.out.2
          case s4 => rfl
          case s5 => simp [Value.oneCell']
          case s6 =>
            intro w5 hb5 hg5
            go_wp2_with fail
            go_roundg (gk - 1)
            case measure => have := HGK.out; omega
            case rel =>
              refine ⟨k + 1, by have := HGK.out; omega, by go_num, ?_, only_trans (only_drewN hgr _) hg5⟩
              rw [HRD.out]
              simp only [ad, bx, ba, nt_eq] at hb5
              exact hb5
        · obtain rfl : k = 64 := by omega
          obtain ⟨V, hV⟩ : ∃ V, V = Sh.rds (Sh.sched m) s 64 := ⟨_, rfl⟩
          have hmix : Sh.mixv s m = Sh.add8 s V := by rw [hV]; rfl
          rw [← hV] at hvr
          have HM := Lib.hid hmix
          clear hV hmix
          have hgrw : w.grownBy wp (some g) := by
            refine ⟨hgr.os.trans hb3.os, hgr.tape.trans hb3.tape, hgr.output.trans hb3.output, Nat.le_trans hb3.size hgr.size, fun b hb hn => (hgr.block b (Nat.lt_of_lt_of_le hb hb3.size) (by intro e; injection e; omega)).trans (hb3.block b hb)⟩
          have hhr := hh3.grown hgr (by intro e; injection e; omega)
          go_wp2_with (refine wpList_load_blk rfl 35 (.tmp 5) rfl w2.heap.size rfl 35 _ _ hvr Tryd.underlying35 rfl HS.out.2 ?_)
          go_loopg [107] 8 (fun r i wr => ∃ k : Nat, r + k = 8 ∧ i = .int .i64 k ∧ Blk wr g 38 (hcl ((Sh.sub8 (Sh.add8 s V) Sh.H0).l.take k ++ (Sh.sub8 s Sh.H0).l.drop k) p long).toArray ∧ w.grownBy wr (some g))
          case atStart => exact ⟨0, rfl, rfl, hhr, hgrw⟩
          case round =>
            clear hhr hgrw
            obtain ⟨k, hgk2, rfl, hhr, hgrw⟩ := hrel
            have HGK2 := Lib.hid hgk2
            obtain ⟨wq, rfl⟩ : ∃ wq : World, wq = wr := ⟨_, rfl⟩
            by_cases hk8 : k < 8
            · clear hgk2
              obtain ⟨x, hx⟩ : ∃ x, s.l[k]? = some x := ⟨_, List.getElem?_eq_getElem (by rw [v8_len]; exact hk8)⟩
              obtain ⟨y, hy⟩ : ∃ y, V.l[k]? = some y := ⟨_, List.getElem?_eq_getElem (by rw [v8_len]; exact hk8)⟩
              have hold := sub8_at s Sh.H0 k x _ hx (H0_at k hk8)
              have hnew := sub8_at _ Sh.H0 k _ _ (add8_at s V k x y hx hy) (H0_at k hk8)
              have hsum : ad (x - Hc k) y = x + y - Hc k := by unfold ad; simp only [BitVec.sub_eq_add_neg]; ac_rfl
              have hidx : ∀ w', (Instr.index 35 (.agg (vcells V)) (.int .i64 (k : Int))).run Tryd.prog w' = .ok (uv y) w' := fun w' =>
                run_index_arr w' _ _ _ _ _ k _ Tryd.underlying35 Tryd.underlying34 (by kernel_rfl) hk8 (by rw [← vcells_eq]; exact wl_at _ _ _ _ hy)
              obtain ⟨f1, f2⟩ := hcl_step _ _ p long k _ _ hold hnew rfl
              rw [← hhr.cell'] at f1
              have HF := Lib.hid (And.intro f1 (And.intro f2 hsum))
              obtain ⟨xo, hxo⟩ : ∃ xo : BitVec 32, xo = x - Hc k := ⟨_, rfl⟩
              rw [← hxo] at HF
              have hfr := hhr.frozen k
              clear f1 f2 hsum hold hnew hx hy hxo
              go_wp2_with fail
              refine wp_region_class_tail (C := fun w' => Drawn wq w') 11 (by kernel_rfl) (by kernel_rfl) (Drawn.one _) ?_
              simp only [List.take_succ_cons, List.take_zero, List.drop_succ_cons, List.drop_zero]
              repeat
                (refine wpQuiet_step (fun K hK => ?_)
                 rw [if_pos (by rfl)]
                 apply Exists.intro
                 refine ⟨fun w' hw' => ?_, hK _ ?_⟩
                 · have e1 := (hw'.cell _).trans HF.out.1
                   unfold uv at e1
                   try unfold uv
                   go_simp
                   first
                     | done
                     | rfl
                 clear hK K
                 try unfold uv
                 go_simp)
              refine wpQuiet_nil ?_
              intro w4 hw4
              have e5 := (hw4.cell _).trans HF.out.1
              unfold uv at e5
              have hhr4 : Blk w4 g 38 (hcl ((Sh.sub8 (Sh.add8 s V) Sh.H0).l.take k ++ (Sh.sub8 s Sh.H0).l.drop k) p long).toArray := by obtain ⟨q, rfl⟩ := hw4; exact hhr
              have hgrw4 : w.grownBy w4 (some g) := by obtain ⟨q, rfl⟩ := hw4; exact only_drewN hgrw _
              have hfr4 := hhr4.frozen k
              go_wp2_with fail
              go_roundg (gk - 1)
              case measure => have := HGK2.out; omega
              case rel =>
                refine ⟨k + 1, by have := HGK2.out; omega, by go_num, ?_, only_setCell hgrw4 (.inl rfl) _⟩
                have h1 := hhr4.set_ k (uv (ad xo y))
                rw [HF.out.2.2, HF.out.2.1] at h1
                rw [HF.out.2.2]
                exact h1
            · obtain rfl : k = 8 := by omega
              go_wp2_with fail
              go_end0
              refine ⟨rfl, ?_, hgrw⟩
              rw [HM.out]
              exact hhr
end Go.Proofs.YtmnanbcinfdbaaaDoor
