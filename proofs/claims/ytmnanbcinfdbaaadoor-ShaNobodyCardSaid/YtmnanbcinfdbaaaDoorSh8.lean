/- The walks of sha's package Sum, Hex, of the example; conditions: none beyond their hypotheses. -/
import Derived.Test.YtmnanbcinfdbaaaDoorSh7
namespace Go.Proofs.YtmnanbcinfdbaaaDoor
open Go.RowKit Go.Proofs.U
set_option linter.unusedVariables false

set_option maxHeartbeats 400000 in
theorem writeNil_any (v : Value) (w : World) : Calls Tryd.prog 22 #[.pointer none, v] w fun e w' => e = .returned (.tuple #[]) ∧ w = w' := by
  go_enter Tryd.func22, Tryd.ntmps22
  go_wp2_with fail
  exact bodyPost_ret (results_none rfl _ _ _) rfl ⟨rfl, rfl⟩
theorem dig_all (D : List UInt8) : (D.map bv).toArray.all (·.oneCell') = true := by
  refine all_oneCell_toArray fun v hv => ?_
  obtain ⟨x, _, rfl⟩ := List.mem_map.1 hv; rfl
theorem dig_size (L : List UInt8) : ((Sh.dig L).map bv).toArray.size = 32 := by simp [Sh.dig_len]

set_option maxRecDepth 100000 in
set_option maxHeartbeats 4000000 in
theorem sumP_any (A : Option Addr) (n c : Nat) (bs : List UInt8) (w : World) (hb : BS w w.heap.size A n bs) (hc : n ≤ c) (hn : n ≤ 549755813888) (hT : Tabs w) :
    Calls Tryd.prog 17 #[.slice A n c] w (DigRet w bs) := by
  obtain ⟨hz, hs⟩ := Go.zero_of_info zeroD
  obtain ⟨z, hzz⟩ : ∃ z, z = ((List.replicate 32 (0 : UInt8)).map bv).toArray := ⟨_, rfl⟩
  rw [← hzz] at hz
  have hzs : z.size = 32 := by rw [hzz]; rfl
  have Hzs := Lib.hid (And.intro hs hzs)
  clear hzz hs hzs
  obtain ⟨hzh, hsh⟩ := Go.zero_of_info zeroH
  obtain ⟨zh, hzzh⟩ : ∃ z, z = (hcells (Sh.sub8 Sh.H0 Sh.H0) zpart 0).toArray := ⟨_, rfl⟩
  have Hzh := Lib.hid hzzh
  rw [← hzzh] at hzh
  clear hzzh hsh
  have hTl := hT.lt
  have hl := hb.1
  have HL := Lib.hid hl
  clear hl
  go_enter Tryd.func17, Tryd.ntmps17
  go_wp2_with fail
  have hb0 : Below w.heap.size w (w.alloc (.cells z 25)) := (Below.refl _ _).alloc (Nat.le_refl _) _
  have hd0 : Blk (w.alloc (.cells z 25)) w.heap.size 25 z := Blk.new _ _ _
  have hs0 : (w.alloc (.cells z 25)).heap.size = w.heap.size + 1 := by simp
  generalize (w.alloc (.cells z 25)) = w0 at hb0 hd0 hs0 ⊢
  have hb1 : Below w0.heap.size w0 (w0.alloc (.cells zh 38)) := (Below.refl _ _).alloc (Nat.le_refl _) _
  have hk1 := Hsh.zero w0 zh Hzh.out
  rw [hs0] at hk1
  generalize (w0.alloc (.cells zh 38)) = w1 at hb1 hk1 ⊢
  have hd1 := hd0.stay hb1
  have hbw1 := hb0.trans (hb1.mono hb0.size)
  clear hs0
  refine (write_any (w.heap.size + 1) [] w1 hk1 A n c bs ((hb.below hbw1).more hbw1.size) (fun h0 a ha e => by
    obtain ⟨b, off, hA, hlt, _⟩ := hb.2 h0
    rw [hA] at ha; injection ha with ha; subst ha; simp at e; omega) hc (by simp; omega) (hT.stay hbw1) (by omega) (by omega)).mono ?_
  rintro e w2 ⟨rfl, hk2, hgr2⟩
  have hd2 := hd1.grown hgr2 (by intro e; injection e; omega)
  have hbw2 := hbw1.grown hgr2 hbw1.size (fun k hk => by injection hk; omega)
  rw [List.nil_append] at hk2
  go_wp2_with fail
  refine (sumH_any (w.heap.size + 1) bs w2 hk2 (by rw [HL.out]; omega) (hT.stay hbw2)).mono ?_
  rintro e w3 ⟨rfl, hb3⟩
  have hd3 := hd2.stay hb3
  have hbw3 := hbw2.trans (hb3.mono hbw2.size)
  go_wp2_with (refine wpList_store_blk rfl 25 (.tmp 2) (.tmp 6) rfl w.heap.size _ rfl rfl _ _ hd3 (by rw [dig_size]; exact Hzs.out.1) (by rw [dig_size]; exact Hzs.out.2) (dig_all _) ?_; intro w4 hb4 hg4)
  refine bodyPost_ret (v := .agg ((Sh.dig bs).map bv).toArray) ?_ rfl ⟨rfl, hbw3.grown hg4 hbw3.size (fun k hk => by injection hk; omega)⟩
  refine results_cell_row Tryd.results17 _ _ w.heap.size _ _ (0, 0) _ ?_ hb4 Tryd.underlying25 rfl (by rw [dig_size]; exact Hzs.out.1)
  rfl
end Go.Proofs.YtmnanbcinfdbaaaDoor
