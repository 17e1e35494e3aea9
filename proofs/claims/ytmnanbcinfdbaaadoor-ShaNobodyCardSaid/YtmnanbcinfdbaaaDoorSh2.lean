/- The walk of sha.spread; conditions: none beyond its hypotheses. -/
import Derived.Test.YtmnanbcinfdbaaaDoorSh1
import Derived.Test.YtmnanbcinfdbaaaDoorRow
import Derived.Deep.WholeRow
import Derived.IntWalk
import Derived.Deep.LoopGhost
namespace Go.Proofs.YtmnanbcinfdbaaaDoor
open Go.RowKit Go.Proofs.U
set_option linter.unusedVariables false

def ad (a b : BitVec 32) : BitVec 32 := a + b
@[go_sem] theorem add32 (a b : BitVec 32) : ((a.toNat : Int) + (b.toNat : Int)) % 4294967296 = ((ad a b).toNat : Int) := by
  unfold ad; rw [BitVec.toNat_add]; omega
@[go_sem] theorem add32w (a b : BitVec 32) : IntKind.u32.wrap ((a.toNat : Int) + (b.toNat : Int)) = ((ad a b).toNat : Int) := by
  rw [IntKind.wrap_u32', add32]
theorem below_of_grown' {w0 w w' : World} {g : Nat} (h : Below w0.heap.size w0 w) (hg : w.grownBy w' (some g)) (hgb : w0.heap.size ≤ g := by omega) : Below w0.heap.size w0 w' :=
  h.grown hg h.size fun k hk => by injection hk; omega
def wl (l : List (BitVec 32)) (n : Nat) : Array Value := (l.map uv ++ List.replicate n (uv 0#32)).toArray
theorem wl_size (l : List (BitVec 32)) (n : Nat) : (wl l n).size = l.length + n := by simp [wl]
theorem wl_at (l : List (BitVec 32)) (n i : Nat) (x : BitVec 32) (h : l[i]? = some x) : (wl l n)[i]? = some (uv x) := by
  unfold wl
  have hl := (List.getElem?_eq_some_iff.1 h).1
  simp only [List.getElem?_toArray]
  rw [List.getElem?_append_left (by simpa using hl), List.getElem?_map, h]; rfl
theorem wl_zero (l : List (BitVec 32)) (n : Nat) (h : 0 < n) : (wl l n)[l.length]? = some (uv 0#32) := by
  unfold wl
  simp only [List.getElem?_toArray]
  rw [List.getElem?_append_right (by simp), List.length_map, Nat.sub_self, List.getElem?_replicate]
  simp [h]
theorem wl_set (l : List (BitVec 32)) (n : Nat) (x : BitVec 32) : (wl l (n + 1)).setIfInBounds l.length (uv x) = wl (l ++ [x]) n := by
  unfold wl
  rw [List.setIfInBounds_toArray, List.set_append_right _ _ (by simp)]
  simp [List.replicate_succ]
theorem wl_last (l : List (BitVec 32)) (n : Nat) (x y : BitVec 32) : (wl (l ++ [x]) n).setIfInBounds l.length (uv y) = wl (l ++ [y]) n := by
  unfold wl
  rw [List.setIfInBounds_toArray, List.set_append_left _ _ (by simp)]
  simp
theorem wl_push (l : List (BitVec 32)) (n : Nat) : wl l (n + 1) = wl (l ++ [0#32]) n := by
  unfold wl; simp [List.replicate_succ]
theorem wl_all (l : List (BitVec 32)) (n : Nat) : (wl l n).all (·.oneCell') = true := by
  refine all_oneCell_toArray fun v hv => ?_
  rcases List.mem_append.1 hv with h | h
  · obtain ⟨x, _, rfl⟩ := List.mem_map.1 h; rfl
  · rw [(List.mem_replicate.1 h).2]; rfl
theorem zero64 : (Tryd.prog.info? 130).map (fun i => (i.zero, i.size)) = some (some (.agg (wl [] 64)), 64) := by kernel_rfl

def four (m : List UInt8) (i : Nat) : List UInt8 := [m.getD (4 * i) 0, m.getD (4 * i + 1) 0, m.getD (4 * i + 2) 0, m.getD (4 * i + 3) 0]
def wdk (m : List UInt8) (i k : Nat) : BitVec 32 := ((four m i).take k).foldl Sh.acc 0#32
theorem wdk_four (m : List UInt8) (i : Nat) : wdk m i 4 = Sh.wd m i := rfl
theorem wdk_succ (m : List UInt8) (i k : Nat) (h : k < 4) (c : UInt8) (hc : m[4 * i + k]? = some c) : wdk m i (k + 1) = Sh.acc (wdk m i k) c := by
  unfold wdk
  match k, h with
  | 0, _ => simp only [Nat.add_zero] at hc; simp [four, hc]
  | 1, _ => simp [four, hc]
  | 2, _ => simp [four, hc]
  | 3, _ => simp [four, hc]
theorem w16_succ (m : List UInt8) (i : Nat) : Sh.w16 m i ++ [Sh.wd m i] = Sh.w16 m (i + 1) := by simp [Sh.w16, List.range_succ]
theorem acc_walk (x : BitVec 32) (c : UInt8) : bo (ofI ((x.toNat : Int) * 256 % 4294967296)) (ofI ((c.toNat : Int) % 4294967296)) = Sh.acc x c := by
  have hc := c.toNat_lt
  rw [show ((c.toNat : Int) % 4294967296) = (c.toNat : Int) by omega]
  unfold bo Sh.acc Sh.bw ofI
  congr 1
  apply BitVec.eq_of_toNat_eq
  have e : ((x.toNat : Int) * 256 % 4294967296) = ((x.toNat * 2 ^ 8 % 4294967296 : Nat) : Int) := by rw [Int.natCast_emod, Int.natCast_mul]; rfl
  rw [e, BitVec.toNat_shiftLeft, Nat.shiftLeft_eq, BitVec.ofInt_natCast, BitVec.toNat_ofNat]
  exact Nat.mod_mod _ _

set_option maxRecDepth 100000 in
set_option maxHeartbeats 4000000 in
theorem spread_any (A : Option Addr) (c : Nat) (m : List UInt8) (w : World) (B : Nat) (hb : BS w B A 64 m) (hB : B ≤ w.heap.size) (hc : 64 ≤ c) :
    Calls Tryd.prog 100 #[.slice A 64 c] w fun e w' => e = .returned (.agg (wl (Sh.sched m) 0)) ∧ Below w.heap.size w w' := by
  obtain ⟨hz0, hs⟩ := Go.zero_of_info zero64
  obtain ⟨z, hzz⟩ : ∃ z, z = wl [] 64 := ⟨_, rfl⟩
  have Hz := Lib.hid hzz
  rw [← hzz] at hz0
  clear hzz
  obtain ⟨b, off, rfl, hblt, -⟩ := hb.2 (by omega)
  go_enter Tryd.func100, Tryd.ntmps100
  go_wp2_with fail
  go_loopw [7] (fun i wr => ∃ k : Nat, k ≤ 16 ∧ i = .int .i64 k ∧ Blk wr w.heap.size 130 (wl (Sh.w16 m k) (64 - k)) ∧ Below w.heap.size w wr) (fun i _ => 16 - (intOf i).toNat)
  case atStart => exact ⟨0, Nat.zero_le _, rfl, by have := Blk.new w 130 z; rw [Hz.out] at this ⊢; exact this, (Below.refl _ _).alloc (Nat.le_refl _) _⟩
  case round =>
    obtain ⟨k, hk, rfl, hblk, hbw⟩ := hrel
    obtain ⟨wo, rfl⟩ : ∃ wo : World, wo = wr := ⟨_, rfl⟩
    by_cases hlt : k < 16
    · have hlk := Sh.w16_len m k
      have HL := Lib.hid hlk
      have e64 : 64 - k = 63 - k + 1 := by omega
      rw [e64] at hblk
      clear hlk e64
      have hz1 := wl_zero (Sh.w16 m k) (63 - k + 1) (by omega)
      rw [HL.out] at hz1
      have i1 : 4 * (k : Int) ≤ 4 * (k : Int) + 4 := by omega
      have i2 : (4 * (k : Int) + 4).toNat = 4 * k + 4 := by omega
      have i3 : (4 * (k : Int)).toNat = 4 * k := by omega
      have i4 : 4 * k + 4 - 4 * k = 4 := by omega
      have i5 : 4 * (k : Int) + 4 ≤ (c : Int) := by omega
      have i6 : ¬ c = 4 * k := by omega
      go_wp2_with fail
      go_loopw [18] (fun i wr => ∃ j : Nat, j ≤ 4 ∧ i = .int .i64 j ∧ Blk wr w.heap.size 130 (wl (Sh.w16 m k ++ [wdk m k j]) (63 - k)) ∧ Below w.heap.size w wr) (fun i _ => 4 - (intOf i).toNat)
      case atStart => exact ⟨0, Nat.zero_le _, rfl, by rw [show wdk m k 0 = 0#32 from rfl, ← wl_push]; exact hblk, hbw⟩
      case round =>
        obtain ⟨j, hj, rfl, hblk2, hbw2⟩ := hrel
        obtain ⟨wp, rfl⟩ : ∃ wp : World, wp = wr := ⟨_, rfl⟩
        by_cases hj4 : j < 4
        · have hm : ∃ x, m[4 * k + j]? = some x := ⟨_, List.getElem?_eq_getElem (by have := hb.1; omega)⟩
          obtain ⟨x, hx⟩ := hm
          have hcx : wp.cell? ⟨b, off + 4 * k + j, none⟩ = some (.int .u8 (x.toNat : Int)) := by
            have := hb.cells (4 * k + j) x hx
            rw [Nat.add_assoc]
            exact (hbw2.cell (p := ⟨b, off + (4 * k + j), none⟩) (by show b < _; omega)).trans this
          have hw := wdk_succ m k j hj4 x hx
          have hcy : wp.cell? ⟨w.heap.size, k, none⟩ = some (.int .u32 ((wdk m k j).toNat : Int)) := by
            rw [hblk2.cell]
            exact wl_at _ _ _ _ (by rw [List.getElem?_append_right (by rw [HL.out]; exact Nat.le_refl _), HL.out, Nat.sub_self]; rfl)
          have hfr := hblk2.frozen k
          have HW := Lib.hid hw
          have HX := Lib.hid hx
          clear hw hx
          go_wp2_with fail
          go_roundw
          case measure => simp [intOf]; omega
          case rel =>
            refine ⟨j + 1, by omega, by go_num, ?_, hbw2.setCell (by simp) _⟩
            have := hblk2.set_ k (uv (wdk m k (j + 1)))
            rw [HW.out, ← acc_walk] at this ⊢
            have e := wl_last (Sh.w16 m k) (63 - k) (wdk m k j) (bo (ofI (((wdk m k j).toNat : Int) * 256 % 4294967296)) (ofI ((x.toNat : Int) % 4294967296)))
            rw [HL.out] at e
            rw [e] at this
            exact this
        · go_wp2_with fail
          go_roundw
          case measure => simp [intOf]; omega
          case rel =>
            obtain rfl : j = 4 := by omega
            refine ⟨k + 1, by omega, by go_num, ?_, hbw2⟩
            rw [wdk_four, w16_succ, show 63 - k = 64 - (k + 1) by omega] at hblk2
            exact hblk2
    · obtain rfl : k = 16 := by omega
      go_wp2_with fail
      go_loopg [6] 48 (fun r i wr => ∃ j : Nat, r + j = 64 ∧ 16 ≤ j ∧ j ≤ 64 ∧ i = .int .i64 j ∧ Blk wr w.heap.size 130 (wl (Sh.exts (j - 16) (Sh.w16 m 16)) (64 - j)) ∧ Below w.heap.size w wr)
      case atStart => exact ⟨16, rfl, Nat.le_refl _, by omega, rfl, hblk, hbw⟩
      case round =>
        obtain ⟨j, hgk, hj0, hj, rfl, hblk2, hbw2⟩ := hrel
        have HGK := Lib.hid hgk
        clear hgk
        obtain ⟨wp, rfl⟩ : ∃ wp : World, wp = wr := ⟨_, rfl⟩
        by_cases hj4 : j < 64
        · have hl : (Sh.exts (j - 16) (Sh.w16 m 16)).length = j := by rw [Sh.exts_len, Sh.w16_len]; omega
          have hx := Sh.exts_step (j - 16) (Sh.w16 m 16)
          rw [show j - 16 + 1 = j + 1 - 16 by omega] at hx
          obtain ⟨l, hll⟩ : ∃ l, l = Sh.exts (j - 16) (Sh.w16 m 16) := ⟨_, rfl⟩
          rw [← hll] at hx hl hblk2
          rw [show 64 - j = 63 - j + 1 by omega] at hblk2
          obtain ⟨a, ha⟩ : ∃ a, l[j - 16]? = some a := ⟨_, List.getElem?_eq_getElem (by omega)⟩
          obtain ⟨d, hd⟩ : ∃ d, l[j - 7]? = some d := ⟨_, List.getElem?_eq_getElem (by omega)⟩
          obtain ⟨e, he⟩ : ∃ e, l[j - 15]? = some e := ⟨_, List.getElem?_eq_getElem (by omega)⟩
          obtain ⟨f, hf⟩ : ∃ f, l[j - 2]? = some f := ⟨_, List.getElem?_eq_getElem (by omega)⟩
          have hnew : Sh.ext l = l ++ [ad (ad (ad a d) (Sh.sg2 e 7 18 3)) (Sh.sg2 f 17 19 10)] := by
            unfold Sh.ext
            rw [hl]
            simp only [List.getD, ha, hd, he, hf, Option.getD_some]
            rfl
          have g1 := wl_at l (63 - j + 1) _ _ ha
          have g2 := wl_at l (63 - j + 1) _ _ hd
          have g3 := wl_at l (63 - j + 1) _ _ he
          have g4 := wl_at l (63 - j + 1) _ _ hf
          have g5 := wl_zero l (63 - j + 1) (by omega)
          rw [hl] at g5
          rw [← hblk2.cell] at g1 g2 g3 g4 g5
          have HG := Lib.hid (And.intro g1 (And.intro g2 (And.intro g3 (And.intro g4 g5))))
          have HX := Lib.hid hx
          have HL := Lib.hid hl
          have HLL := Lib.hid hll
          have HN := Lib.hid hnew
          clear hx hl hll hnew ha hd he hf g1 g2 g3 g4 g5
          have b1 : (0 : Int) ≤ (j : Int) - 16 := by omega
          have b2 : (0 : Int) ≤ (j : Int) - 7 := by omega
          have b3 : (0 : Int) ≤ (j : Int) - 15 := by omega
          have b4 : (0 : Int) ≤ (j : Int) - 2 := by omega
          have c1 : (16 : Int) ≤ (j : Int) := by omega
          have c2 : (7 : Int) ≤ (j : Int) := by omega
          have c3 : (15 : Int) ≤ (j : Int) := by omega
          have c4 : (2 : Int) ≤ (j : Int) := by omega
          have d1 : (j : Int) - 16 < 64 := by omega
          have d2 : (j : Int) - 7 < 64 := by omega
          have d3 : (j : Int) - 15 < 64 := by omega
          have d4 : (j : Int) - 2 < 64 := by omega
          have w1 : IntKind.i64.wrap ((j : Int) - 16) = (j : Int) - 16 := IntWalk.i64_in _ (by omega)
          have w2 : IntKind.i64.wrap ((j : Int) - 7) = (j : Int) - 7 := IntWalk.i64_in _ (by omega)
          have w3 : IntKind.i64.wrap ((j : Int) - 15) = (j : Int) - 15 := IntWalk.i64_in _ (by omega)
          have w4 : IntKind.i64.wrap ((j : Int) - 2) = (j : Int) - 2 := IntWalk.i64_in _ (by omega)
          have i1 : ((j : Int) - 16).toNat = j - 16 := by omega
          have i2 : ((j : Int) - 7).toNat = j - 7 := by omega
          have i3 : ((j : Int) - 15).toNat = j - 15 := by omega
          have i4 : ((j : Int) - 2).toNat = j - 2 := by omega
          go_wp2_with fail
          refine wp_region_class_tail (C := fun w' => Drawn wp w') 23 (by kernel_rfl) (by kernel_rfl) (Drawn.one _) ?_
          simp only [List.take_succ_cons, List.take_zero, List.drop_succ_cons, List.drop_zero]
          repeat
            (refine wpQuiet_step (fun K hK => ?_)
             rw [if_pos (by rfl)]
             apply Exists.intro
             refine ⟨fun w' hw' => ?_, hK _ ?_⟩
             · have e1 := (hw'.cell _).trans HG.out.1
               have e2 := (hw'.cell _).trans HG.out.2.1
               have e3 := (hw'.cell _).trans HG.out.2.2.1
               have e4 := (hw'.cell _).trans HG.out.2.2.2.1
               unfold uv at e1 e2 e3 e4
               go_simp
               first
                 | done
                 | (with_reducible refine (smallA e w').mono ?_
                    rintro e' w1 ⟨rfl, hd1⟩
                    exact ⟨rfl, hw'.trans hd1⟩)
                 | (with_reducible refine (smallB f w').mono ?_
                    rintro e' w1 ⟨rfl, hd1⟩
                    exact ⟨rfl, hw'.trans hd1⟩)
                 | rfl
             clear hK K
             try unfold uv
             go_simp)
          refine wpQuiet_nil ?_
          intro w1 hw1
          have e5 := (hw1.cell _).trans HG.out.2.2.2.2
          have hblk3 : Blk w1 w.heap.size 130 (wl l (63 - j + 1)) := by obtain ⟨q, rfl⟩ := hw1; exact hblk2
          have hbw3 := hbw2.trans (hw1.below _)
          have hfr := hblk3.frozen j
          go_wp2_with fail
          go_roundg (gk - 1)
          case measure => have := HGK.out; omega
          case rel =>
            refine ⟨j + 1, by have := HGK.out; omega, by omega, by omega, by go_num, ?_, hbw3.setCell (by simp) _⟩
            have h1 := hblk3.set_ j (uv (ad (ad (ad a d) (Sh.sg2 e 7 18 3)) (Sh.sg2 f 17 19 10)))
            have h2 := wl_set l (63 - j) (ad (ad (ad a d) (Sh.sg2 e 7 18 3)) (Sh.sg2 f 17 19 10))
            rw [HL.out] at h2
            rw [h2, ← HN.out, ← HX.out, show 63 - j = 64 - (j + 1) by omega] at h1
            exact h1
        · obtain rfl : j = 64 := by omega
          have hfin : Blk wp w.heap.size 130 (wl (Sh.sched m) 0) := hblk2
          go_wp2_with (first
            | (refine wpList_load_blk rfl 130 (.tmp 2) rfl _ rfl _ _ _ hfin Tryd.underlying130 rfl (by rw [wl_size, Sh.sched_len]; exact hs) ?_)
            | (refine wpList_store_blk rfl 130 (.tmp 2) (.tmp 60) rfl _ _ rfl rfl _ _ hfin (by rw [wl_size, Sh.sched_len]; exact hs) rfl (wl_all _ _) ?_; intro w2 hb2 hg2))
          refine bodyPost_ret (v := .agg (wl (Sh.sched m) 0)) ?_ rfl ⟨rfl, below_of_grown' hbw2 hg2⟩
          refine results_cell_row Tryd.results100 _ _ w.heap.size _ _ (0, 0) _ ?_ hb2 Tryd.underlying130 rfl (by rw [wl_size, Sh.sched_len]; exact hs)
          rfl
end Go.Proofs.YtmnanbcinfdbaaaDoor
