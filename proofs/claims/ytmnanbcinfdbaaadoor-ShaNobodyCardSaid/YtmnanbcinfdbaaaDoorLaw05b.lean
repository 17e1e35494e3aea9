/- The walk of ShaOf; conditions: none beyond its hypotheses. -/
import Derived.Test.YtmnanbcinfdbaaaDoorLaw05
namespace Go.Proofs.YtmnanbcinfdbaaaDoor
open Go.RowKit Go.Proofs.U
set_option linter.unusedVariables false

/-- what is written for parts -/
def partsOf (l : List (List UInt8)) : List UInt8 := l.flatMap fun b => Sh.eightb b.length ++ b
theorem partsOf_snoc (o : List (List UInt8)) (k : Nat) (bs : List UInt8) (h : o[k]? = some bs) : partsOf (o.take (k + 1)) = partsOf (o.take k) ++ Sh.eightb bs.length ++ bs := by
  rw [List.take_add_one, h]; simp [partsOf]
theorem partsOf_len (o : List (List UInt8)) : (partsOf o).length = 8 * o.length + total5 o := by
  unfold partsOf total5
  induction o with
  | nil => rfl
  | cons b o ih => rw [List.flatMap_cons, List.length_append, ih, List.length_append, Sh.eightb_len]; simp; omega

set_option maxRecDepth 100000 in
set_option maxHeartbeats 8000000 in
theorem shaOf_any (A : Option Addr) (n c : Nat) (l : List (List UInt8)) (w : World) (h : SS w 0 w.heap.size A n l) (hn : n ≤ 20) (htot : total5 l ≤ 1000) (hT : Tabs w) :
    Calls Tryd.prog 27 #[.slice A n c] w (DigRet w (partsOf l)) := by
  obtain ⟨hz, hs⟩ := Go.zero_of_info zeroD
  obtain ⟨z, hzz⟩ : ∃ z, z = ((List.replicate 32 (0 : UInt8)).map bv).toArray := ⟨_, rfl⟩
  rw [← hzz] at hz
  have hzs : z.size = 32 := by rw [hzz]; rfl
  have Hzs := Lib.hid (And.intro hs hzs)
  clear hzz hs hzs
  obtain ⟨hzh, hsh⟩ := Go.zero_of_info zeroH
  obtain ⟨zh, hzzh⟩ : ∃ z, z = (hcells (Sh.sub8 Sh.H0 Sh.H0) zpart 0).toArray := ⟨_, rfl⟩
  have Hzh := Lib.hid hzzh
  rw [← hzzh] at hzh
  clear hzzh hsh
  have hTl := hT.lt
  have hl := h.1
  have HL := Lib.hid hl
  clear hl
  go_enter Tryd.func27, Tryd.ntmps27
  go_wp2_with fail
  have hb0 : Below w.heap.size w (w.alloc (.cells z 25)) := (Below.refl _ _).alloc (Nat.le_refl _) _
  have hd0 : Blk (w.alloc (.cells z 25)) w.heap.size 25 z := Blk.new _ _ _
  have hs0 : (w.alloc (.cells z 25)).heap.size = w.heap.size + 1 := by simp
  generalize (w.alloc (.cells z 25)) = w0 at hb0 hd0 hs0 ⊢
  have hb1 : Below w0.heap.size w0 (w0.alloc (.cells zh 38)) := (Below.refl _ _).alloc (Nat.le_refl _) _
  have hk1 := Hsh.zero w0 zh Hzh.out
  rw [hs0] at hk1
  generalize (w0.alloc (.cells zh 38)) = w1 at hb1 hk1 ⊢
  have hd1 := hd0.stay hb1
  have hbw1 := hb0.trans (hb1.mono hb0.size)
  clear hs0
  go_loopg [8] n (fun r i wr => ∃ k : Nat, r + k = n ∧ i = .int .i64 k ∧ Hsh wr (w.heap.size + 1) (partsOf (l.take k)) ∧ Blk wr w.heap.size 25 z ∧ Below w.heap.size w wr)
  case atStart => exact ⟨0, rfl, rfl, hk1, hd1, hbw1⟩
  case round =>
    clear hk1 hd1 hbw1
    obtain ⟨k, hgk, rfl, hkr, hdr, hbw⟩ := hrel
    have HGK := Lib.hid hgk
    obtain ⟨wo, rfl⟩ : ∃ wo : World, wo = wr := ⟨_, rfl⟩
    have hPl : (partsOf (l.take k)).length ≤ 1160 := by
      rw [partsOf_len, List.length_take]; have := total5_take l k; omega
    have hg1l := hkr.lt
    by_cases hlt : k < n
    · clear hgk
      obtain ⟨b, off, xs, A2, c2, rfl, _, hx, hcell, hc2, hbs0, _⟩ := (h.below hbw).at_ hlt
      have hbsw : BS w w.heap.size A2 xs.length xs := hbs0.keep fun p hp => (hbw.cell hp).symm
      have hsn := partsOf_snoc l k xs hx
      have hxl : xs.length ≤ 1000 := by
        have h1 := total5_take l (k + 1)
        rw [total5_snoc l k xs hx] at h1; omega
      obtain ⟨L, hL⟩ : ∃ L, L = partsOf (l.take k) := ⟨_, rfl⟩
      rw [← hL] at hkr hsn hPl
      have HS := Lib.hid hsn
      clear hx hsn hL hbs0
      go_wp2_with fail
      refine (eight_any xs.length (by omega) wo).mono ?_
      rintro e w2 ⟨A3, c3, rfl, hown3, hb3⟩
      have hbw3 := hbw.trans (hb3.mono hbw.size)
      have hk3 := hkr.below hb3
      have hd3 := hdr.stay hb3
      go_wp2_with fail
      refine (write_any (w.heap.size + 1) L w2 hk3 A3 8 c3 (Sh.eightb xs.length) hown3.bs (fun h a e hb => by
        have := (World.ownsRow.lt hown3 a.block (by rw [e]; rfl)).1
        omega) hown3.le (by omega) (hT.stay hbw3) (by omega) (by omega)).mono ?_
      rintro e w4 ⟨rfl, hk4, hgr4⟩
      have hbw4 := hbw3.grown hgr4 hbw3.size (fun k hk => by injection hk; omega)
      have hd4 := hd3.grown hgr4 (by intro e; injection e; omega)
      go_wp2_with fail
      refine (write_any (w.heap.size + 1) (L ++ Sh.eightb xs.length) w4 hk4 A2 xs.length c2 xs ((hbsw.below hbw4).more hbw4.size) (fun h0 a ha e => by
        obtain ⟨b', off', hA, hlt', _⟩ := hbsw.2 h0
        rw [hA] at ha; injection ha with ha; subst ha; simp at e; omega) hc2 (by rw [List.length_append, Sh.eightb_len]; omega) (hT.stay hbw4) (by omega) (by omega)).mono ?_
      rintro e w5 ⟨rfl, hk5, hgr5⟩
      have hbw5 := hbw4.grown hgr5 hbw4.size (fun k hk => by injection hk; omega)
      have hd5 := hd4.grown hgr5 (by intro e; injection e; omega)
      go_wp2_with fail
      go_roundg (gk - 1)
      case measure => have := HGK.out; omega
      case rel => exact ⟨k + 1, by have := HGK.out; omega, by go_num, by rw [HS.out]; exact hk5, hd5, hbw5⟩
    · obtain rfl : k = n := by omega
      have hfin : l.take k = l := List.take_of_length_le (by rw [HL.out]; omega)
      rw [hfin] at hkr hPl
      clear hfin hgk
      go_wp2_with fail
      refine (sumH_any (w.heap.size + 1) (partsOf l) wo hkr (by omega) (hT.stay hbw)).mono ?_
      rintro e w3 ⟨rfl, hb3⟩
      have hd3 := hdr.stay hb3
      have hbw3 := hbw.trans (hb3.mono hbw.size)
      go_wp2_with (refine wpList_store_blk rfl 25 (.tmp 2) (.tmp 19) rfl w.heap.size _ rfl rfl _ _ hd3 (by rw [dig_size]; exact Hzs.out.1) (by rw [dig_size]; exact Hzs.out.2) (dig_all _) ?_; intro w4 hb4 hg4)
      refine bodyPost_ret (v := .agg ((Sh.dig (partsOf l)).map bv).toArray) ?_ rfl ⟨rfl, hbw3.grown hg4 hbw3.size (fun k hk => by injection hk; omega)⟩
      refine results_cell_row Tryd.results27 _ _ w.heap.size _ _ (0, 0) _ ?_ hb4 Tryd.underlying25 rfl (by rw [dig_size]; exact Hzs.out.1)
      rfl
end Go.Proofs.YtmnanbcinfdbaaaDoor
