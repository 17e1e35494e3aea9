/- The walk of sha's Sum of a hash that is none; conditions: none beyond its hypotheses. -/
import Derived.Test.YtmnanbcinfdbaaaDoorSh7
namespace Go.Proofs.YtmnanbcinfdbaaaDoor
open Go.RowKit Go.Proofs.U
set_option linter.unusedVariables false

set_option maxRecDepth 100000 in
set_option maxHeartbeats 4000000 in
theorem sumNil_any (w : World) (hT : Tabs w) :
    Calls Tryd.prog 24 #[.pointer none] w (DigRet w []) := by
  obtain ⟨L, hLL⟩ : ∃ L : List UInt8, L = [] := ⟨_, rfl⟩
  rw [← hLL]
  have hn : L.length ≤ 549755813888 := by rw [hLL]; decide
  have HLN := Lib.hid hLL
  clear hLL
  obtain ⟨hz, hs⟩ := Go.zero_of_info zeroD
  obtain ⟨z, hzz⟩ : ∃ z, z = ((List.replicate 32 (0 : UInt8)).map bv).toArray := ⟨_, rfl⟩
  have Hz := Lib.hid (And.intro hzz hs)
  rw [← hzz] at hz
  clear hzz hs
  have hTl := hT.lt
  obtain ⟨ll, hll⟩ : ∃ ll, ll = L.length := ⟨_, rfl⟩
  have hn' : ll ≤ 549755813888 := by omega
  have HLL := Lib.hid hll
  clear hll
  go_enter Tryd.func24, Tryd.ntmps24
  go_wp2_with fail
  have hb0 : Below w.heap.size w (w.alloc (.cells z 25)) := (Below.refl _ _).alloc (Nat.le_refl _) _
  have hd0 : Blk (w.alloc (.cells z 25)) w.heap.size 25 z := Blk.new _ _ _
  generalize (w.alloc (.cells z 25)) = wa at hb0 hd0 ⊢
  refine (shaNew_any wa).mono ?_
  rintro e w0 ⟨g, rfl, hgw, hk0, hbn⟩
  have hb0 := hb0.trans (hbn.mono hb0.size)
  have hd0 := hd0.stay hbn
  rw [← HLN.out] at hk0
  have hgl0 := hk0.lt
  go_wp2_with fail
  refine (shaClone_any g L w0 hk0).mono ?_
  rintro e w1 ⟨g1, rfl, hg1, hc1, hb1⟩
  have hd1 := hd0.stay hb1
  have hk1 := hk0.below hb1
  have hbw1 := hb0.trans (hb1.mono hb0.size)
  have c1 := hk1.long
  rw [← HLL.out] at c1
  have hdl := hd0.lt
  obtain ⟨N, hN⟩ : ∃ N : Nat, N = 1 + (119 - ll % 64) % 64 := ⟨_, rfl⟩
  have hNi : 1 + (119 - (ll : Int) % 64) % 64 = (N : Int) := by omega
  have hN1 : 1 ≤ N := by omega
  have hN2 : N ≤ 64 := by omega
  have HN := Lib.hid hN
  clear hN
  have hN3 : (0 : Int) < (N : Int) := by omega
  go_wp2_with (refine wpList_makeb bt rfl _ _ rfl N _ rfl rfl (by omega) (by omega) ?_; intro w2 hown2 hb2; obtain ⟨N', hN'⟩ : ∃ N', N = N' + 1 := ⟨N - 1, by omega⟩; have hc0 := hown2.cellAt 0 0 (by rw [hN']; rfl); have hf0 := hown2.free 0; clear hN' N')
  have hown3 := hown2.set 0 128
  rw [zeros_of L N (by rw [← HLL.out]; exact HN.out)] at hown3
  have hg1l := hc1.lt
  have hgr3 : w2.grownBy (w2.setCell ⟨w1.heap.size, 0, none⟩ (.int .u8 128)) (some w1.heap.size) := only_setCell (World.grownBy.refl _ _) (.inl rfl) _
  have hb3 : Below w1.heap.size w1 (w2.setCell ⟨w1.heap.size, 0, none⟩ (.int .u8 128)) := hb2.setCell (Nat.le_refl _) _
  have hown3 : Own (w2.setCell ⟨w1.heap.size, 0, none⟩ (.int .u8 128)) w1.heap.size 5 (some ⟨w1.heap.size, 0, none⟩) N N (Sh.zeros L) := hown3
  generalize (w2.setCell ⟨w1.heap.size, 0, none⟩ (.int .u8 128)) = w3 at hown3 hgr3 hb3 ⊢
  have hbw3 := hbw1.trans (hb3.mono hbw1.size)
  have hws := hb0.size
  refine (write_any g1 L w3 (hc1.below hb3) _ N N (Sh.zeros L) hown3.bs (fun h a e => by injection e with e; subst e; simp only; omega) (Nat.le_refl _) (by omega) (hT.stay hbw3) (by omega) (by omega)).mono ?_
  rintro e w4 ⟨rfl, hc4, hgr4⟩
  have hk4 := (hk1.below hb3).grown hgr4 (by intro e; injection e; omega)
  have hd4 := (hd1.stay hb3).grown hgr4 (by intro e; injection e; omega)
  have hbw4 := hbw3.grown hgr4 hbw3.size (fun k hk => by injection hk; omega)
  have c4 := hk4.long
  rw [← HLL.out] at c4
  clear c1 hc0 hf0 hown2 hown3
  go_wp2_with fail
  rw [show (8 * (ll : Int)) = ((8 * ll : Nat) : Int) by omega]
  refine (eight_any (8 * ll) (by omega) w4).mono ?_
  rintro e w5 ⟨A5, c5, rfl, hown5, hb5⟩
  have hbw5 := hbw4.trans (hb5.mono hbw4.size)
  have hw14 : w1.heap.size ≤ w4.heap.size := Nat.le_trans hb3.size hgr4.size
  have hL4 : (L ++ Sh.zeros L).length ≤ ll + 64 := by rw [List.length_append, Sh.zeros_len, ← HLL.out]; omega
  go_wp2_with fail
  refine (write_any g1 (L ++ Sh.zeros L) w5 (hc4.below hb5) A5 8 c5 (Sh.eightb (8 * ll)) hown5.bs (fun h a e hb => by
    have := (World.ownsRow.lt hown5 a.block (by rw [e]; rfl)).1
    omega) hown5.le (by omega) (hT.stay hbw5) (by omega) (by omega)).mono ?_
  rintro e w6 ⟨rfl, hc6, hgr6⟩
  have hd6 := (hd4.stay hb5).grown hgr6 (by intro e; injection e; omega)
  have hbw6 := hbw5.grown hgr6 hbw5.size (fun k hk => by injection hk; omega)
  have hpad : L ++ Sh.zeros L ++ Sh.eightb (8 * ll) = Sh.padded L := by rw [HLL.out]; rfl
  rw [hpad] at hc6
  obtain ⟨J6, -, hblk6⟩ := hc6
  obtain ⟨V, hV⟩ : ∃ V, V = Sh.st (Sh.padded L) := ⟨_, rfl⟩
  have hdig : Sh.dig L = V.l.flatMap Sh.wbytes := by rw [hV]; rfl
  rw [← hV] at hblk6
  have HV := Lib.hid hdig
  have hrange : w6.rangeAt g1 0 ((Sh.sub8 V Sh.H0).l.map uv) := by
    intro j v hj
    rw [Nat.zero_add, hblk6.cell, List.getElem?_toArray]
    unfold hcells
    rw [List.getElem?_append_left (List.getElem?_eq_some_iff.1 hj).1]
    exact hj
  have hsz35 : (Tryd.prog.info? 35).map (·.size) = some 8 := by kernel_rfl
  have HZ := Lib.hid hsz35
  clear hV hdig hpad hc4 hsz35 c4
  go_wp2_with (refine wpList_load_mid rfl 35 (.tmp 37) rfl g1 0 rfl ((Sh.sub8 V Sh.H0).l.map uv) _ hrange Tryd.underlying35 rfl HZ.out ?_)
  have hdgl := Sh.dig_len L
  have HDL := Lib.hid hdgl
  obtain ⟨D, hD⟩ : ∃ D, D = Sh.dig L := ⟨_, rfl⟩
  have HD := Lib.hid hD
  rw [← hD] at hdgl HV
  have hd6' : Blk w6 w.heap.size 25 ((dgz D 0).map bv).toArray := by have := hd6; rw [Hz.out.1] at this; exact this
  clear hdgl hD hd6 hz
  have hT6 := hT.stay hbw6
  clear hd0 hd1 hd4 hk0 hk1 hk4 hc1 hb0 hb1 hb2 hb3 hb5 hgr3 hgr4 hgr6 hown3 hown5 hbw1 hbw3 hbw4 hbw5 hblk6 hrange hNi hN1 hN2 hN3
  have hsz25 := Hz.out.2
  have HZ25 := Lib.hid hsz25
  clear hsz25
  go_loopg [39] 8 (fun r i wr => ∃ k : Nat, r + k = 8 ∧ i = .int .i64 k ∧ Blk wr w.heap.size 25 ((dgz D (4 * k)).map bv).toArray ∧ w6.grownBy wr (some w.heap.size))
  case atStart => exact ⟨0, rfl, rfl, hd6', World.grownBy.refl _ _⟩
  case round =>
    clear hd6'
    obtain ⟨k, hk, rfl, hdk, hgr⟩ := hrel
    have HK := Lib.hid hk
    obtain ⟨wo, rfl⟩ : ∃ wo : World, wo = wr := ⟨_, rfl⟩
    have gkp : 0 < gk ∨ gk = 0 := by omega
    by_cases h8 : k < 8
    · obtain ⟨Y, hY⟩ : ∃ Y, V.l[k]? = some Y := ⟨_, List.getElem?_eq_getElem (by rw [v8_len]; exact h8)⟩
      have hs := sub8_at V Sh.H0 k Y (Hc k) hY (H0_at k h8)
      have hsum : ad (Y - Hc k) (Hc k) = Y := BitVec.sub_add_cancel _ _
      have hidx : ∀ w', (Instr.index 35 (.agg (List.map uv (Sh.sub8 V Sh.H0).l).toArray) (.int .i64 (k : Int))).run Tryd.prog w' = .ok (.int .u32 (((Y - Hc k : BitVec 32)).toNat : Int)) w' := fun w' =>
        run_index_arr w' _ _ _ _ _ k _ Tryd.underlying35 Tryd.underlying34 (by kernel_rfl) h8 (by rw [List.getElem?_toArray, List.getElem?_map, hs]; rfl)
      have hTr := hT6.only hgr (by omega) (by omega)
      have e2 : wo.cell? ⟨0, k, none⟩ = some (.int .u32 ((Hc k).toNat : Int)) := hTr.1 k h8
      obtain ⟨xo, hxo⟩ : ∃ xo : BitVec 32, xo = Y - Hc k := ⟨_, rfl⟩
      obtain ⟨hh, hhc⟩ : ∃ hh : BitVec 32, hh = Hc k := ⟨_, rfl⟩
      rw [← hxo, ← hhc] at hsum
      rw [← hxo] at hidx
      rw [← hhc] at e2
      have HSum := Lib.hid hsum
      have HY := Lib.hid hY
      clear hs hY hxo hhc hk hsum
      go_wp2_with fail
      rw [HSum.out]
      obtain ⟨gK, hgK⟩ : ∃ gK, gK = gk := ⟨_, rfl⟩
      rw [← hgK] at HK
      have HGK := Lib.hid hgK
      clear hgK gkp hidx e2 HSum
      go_loopg [48] 4 (fun r i wr => ∃ j : Nat, r + j = 4 ∧ i = .int .i64 j ∧ Blk wr w.heap.size 25 ((dgz D (4 * k + j)).map bv).toArray ∧ w6.grownBy wr (some w.heap.size))
      case atStart => exact ⟨0, rfl, rfl, hdk, hgr⟩
      case round =>
        clear hdk hgr
        obtain ⟨j, hj, rfl, hdj, hgrj⟩ := hrel
        have HJ := Lib.hid hj
        obtain ⟨wp, rfl⟩ : ∃ wp : World, wp = wr := ⟨_, rfl⟩
        by_cases h4 : j < 4
        · obtain ⟨c, hc⟩ : ∃ c, (Sh.wbytes Y)[j]? = some c := ⟨_, List.getElem?_eq_getElem h4⟩
          have hDc : D[4 * k + j]? = some c := by rw [HV.out, flat_at V k j Y HY.out h4]; exact hc
          have hDl : D.length = 32 := by rw [HD.out]; exact HDL.out
          have hset := dgz_set D (4 * k + j) c hDl hDc
          obtain ⟨z0, hz0⟩ := dgz_at D (4 * k + j) hDl (by omega)
          rw [← hdj.cell] at hz0
          have hfr := hdj.frozen (4 * k + j)
          have HS := Lib.hid (And.intro hc hset)
          unfold bv at hz0
          clear hc hset hDc hDl hj
          have hjs : j = 0 ∨ j = 1 ∨ j = 2 ∨ j = 3 := by omega
          rcases hjs with rfl | rfl | rfl | rfl
          · try simp only [Nat.add_zero] at hfr hz0
            go_wp2_with fail
            go_roundg (gk - 1)
            case measure => have := HJ.out; omega
            case rel =>
              refine ⟨1, by have := HJ.out; omega, rfl, ?_, only_setCell hgrj (.inl rfl) _⟩
              have h1 := hdj.set_ (4 * k + 0) (bv c)
              rw [HS.out.2] at h1
              have hc : c = (lo8 (bsr Y 24)) := by
                have := HS.out.1
                simp [Sh.wbytes] at this
                rw [← this]
                exact (lo8_sh Y 24 16777216 (by decide)).symm
              rw [hc] at h1
              exact h1
          · try simp only [Nat.add_zero] at hfr hz0
            go_wp2_with fail
            go_roundg (gk - 1)
            case measure => have := HJ.out; omega
            case rel =>
              refine ⟨2, by have := HJ.out; omega, rfl, ?_, only_setCell hgrj (.inl rfl) _⟩
              have h1 := hdj.set_ (4 * k + 1) (bv c)
              rw [HS.out.2] at h1
              have hc : c = (lo8 (bsr Y 16)) := by
                have := HS.out.1
                simp [Sh.wbytes] at this
                rw [← this]
                exact (lo8_sh Y 16 65536 (by decide)).symm
              rw [hc] at h1
              exact h1
          · try simp only [Nat.add_zero] at hfr hz0
            go_wp2_with fail
            go_roundg (gk - 1)
            case measure => have := HJ.out; omega
            case rel =>
              refine ⟨3, by have := HJ.out; omega, rfl, ?_, only_setCell hgrj (.inl rfl) _⟩
              have h1 := hdj.set_ (4 * k + 2) (bv c)
              rw [HS.out.2] at h1
              have hc : c = (lo8 (bsr Y 8)) := by
                have := HS.out.1
                simp [Sh.wbytes] at this
                rw [← this]
                exact (lo8_sh Y 8 256 (by decide)).symm
              rw [hc] at h1
              exact h1
          · try simp only [Nat.add_zero] at hfr hz0
            go_wp2_with fail
            go_roundg (gk - 1)
            case measure => have := HJ.out; omega
            case rel =>
              refine ⟨4, by have := HJ.out; omega, rfl, ?_, only_setCell hgrj (.inl rfl) _⟩
              have h1 := hdj.set_ (4 * k + 3) (bv c)
              rw [HS.out.2] at h1
              have hc : c = (lo8 Y) := by
                have := HS.out.1
                simp [Sh.wbytes] at this
                rw [← this]
                rfl
              rw [hc] at h1
              exact h1
        · obtain rfl : j = 4 := by omega
          go_wp2_with fail
          go_roundg (gK - 1)
          case measure => have := HK.out; have := HGK.out; omega
          case rel => exact ⟨k + 1, by have := HK.out; omega, by go_num, hdj, hgrj⟩
    · obtain rfl : k = 8 := by omega
      have hDl : D.length = 32 := by rw [HD.out]; exact HDL.out
      have hfin : Blk wo w.heap.size 25 (D.map bv).toArray := by
        have := hdk
        unfold dgz at this
        rw [List.take_of_length_le (by omega)] at this
        simpa using this
      have hDs : (D.map bv).toArray.size = 32 := by simp [hDl]
      have HDs := Lib.hid hDs
      have hall : (D.map bv).toArray.all (·.oneCell') = true := by
        refine all_oneCell_toArray fun v hv => ?_
        obtain ⟨x, _, rfl⟩ := List.mem_map.1 hv; rfl
      have HAll := Lib.hid hall
      clear hDl hDs hall hdk
      go_wp2_with (first
        | (refine wpList_load_blk rfl 25 (.tmp 2) rfl w.heap.size rfl _ _ _ hfin Tryd.underlying25 rfl (by rw [HDs.out]; exact HZ25.out) ?_)
        | (refine wpList_store_blk rfl 25 (.tmp 2) (.tmp 64) rfl w.heap.size _ rfl rfl _ _ hfin (by rw [HDs.out]; exact HZ25.out) rfl HAll.out ?_; intro w9 hb9 hg9))
      refine bodyPost_ret (v := .agg ((Sh.dig L).map bv).toArray) ?_ rfl ⟨rfl, (hbw6.grown hgr hbw6.size (fun k hk => by injection hk; omega)).grown hg9 (Nat.le_trans hbw6.size hgr.size) (fun k hk => by injection hk; omega)⟩
      rw [← HD.out]
      refine results_cell_row Tryd.results24 _ _ w.heap.size _ _ (0, 0) _ ?_ hb9 Tryd.underlying25 rfl (by rw [HDs.out]; exact HZ25.out)
      rfl
end Go.Proofs.YtmnanbcinfdbaaaDoor
