/- The walks of roll.Window; conditions: none beyond their hypotheses. The walks of roll.Window's Skip and Next; conditions: none beyond their hypotheses. -/
import Derived.Test.YtmnanbcinfdbaaaDoorMgSl
import Derived.Deep.RegionHeld3
import Derived.LaidEqlPtr
import Derived.Test.YtmnanbcinfdbaaaDoorMgU
import Derived.Deep.QuietTactic
import Derived.BigQuiet
import Derived.IntWalk
set_option linter.unusedSimpArgs false
set_option linter.unusedVariables false
section
namespace Go.Proofs.YtmnanbcinfdbaaaDoor
open Go.RowKit Go.Proofs.U
set_option linter.unusedVariables false

/-- what is in a window -/
def inw (bs : List UInt8) (n k : Nat) : List UInt8 := (bs.drop k).take n
/-- block g is a window over bytes -/
def Win (w : World) (g b off N c n k : Nat) (bs : List UInt8) : Prop :=
  Blk w g 141 #[.slice (some ⟨b, off, none⟩) N c, .int .i64 (n : Int), .int .i64 (k : Int), .int .u16 (md (ra (inw bs n k))), .int .u16 (md (rb (inw bs n k)))]
def WinRet (w : World) (g b off N c n k : Nat) (bs : List UInt8) (e : Ending) (w' : World) : Prop :=
  e = .returned (.bool true) ∧ Win w' g b off N c n k bs ∧ w.grownBy w' (some g)
def NewWin (w : World) (b off N c n : Nat) (bs : List UInt8) (e : Ending) (w' : World) : Prop :=
  ∃ g, e = .returned (.pointer (some ⟨g, 0, none⟩)) ∧ w.heap.size ≤ g ∧ Win w' g b off N c n 0 bs ∧ Below w.heap.size w w'
theorem Win.stay {w w' : World} {g b off N c n k : Nat} {bs : List UInt8} (h : Win w g b off N c n k bs) (hb : Below w.heap.size w w') : Win w' g b off N c n k bs := Blk.stay h hb
theorem Win.lt {w : World} {g b off N c n k : Nat} {bs : List UInt8} (h : Win w g b off N c n k bs) : g < w.heap.size := Blk.lt h
theorem cell_stay {w w' : World} {p : Addr} {v : Value} (hb : Below w.heap.size w w') (h : w.cell? p = some v) : w'.cell? p = some v := (hb.cell (World.block_lt_of_cell? w p h)).trans h

set_option maxHeartbeats 400000 in
theorem over_yes (b off N c n : Nat) (bs : List UInt8) (w : World) (hb : BS w w.heap.size (some ⟨b, off, none⟩) N bs) (hN : N ≤ 140737488355328) (hc : N ≤ c) (h1 : 1 ≤ n) (h2 : n ≤ N) :
    Calls Tryd.prog 76 #[.slice (some ⟨b, off, none⟩) N c, .int .i64 (n : Int)] w (NewWin w b off N c n bs) := by
  have g1 : decide ((n : Int) < 1) = false := by simp; omega
  have g2 : decide ((N : Int) < (n : Int)) = false := by simp; omega
  go_enter Tryd.func76, Tryd.ntmps76
  go_wp2_with fail
  refine (rsum_any _ _ _ (bs.take n) _ w.heap.size (hb.take h2) (Nat.le_refl _) (by unfold maxLen; omega)).mono ?_
  rintro e w1 ⟨rfl, hb1⟩
  go_wp2_with fail
  refine (hopen_any _ (rsum_bd _).1 (rsum_bd _).2 _).mono ?_
  rintro e w2 ⟨rfl, hb2⟩
  unfold hv
  have f2 := hb1.trans (hb2.mono hb1.size)
  go_wp2_with fail
  go_ret
  refine ⟨w2.heap.size, rfl, f2.size, ?_, f2.alloc f2.size _⟩
  unfold Win inw
  rw [List.drop_zero, show md (ra (bs.take n)) = md (rsum (bs.take n)) from (lo_rsum _).symm, show md (rb (bs.take n)) = md (rsum (bs.take n) / 65536) from (hi_rsum _).symm]
  exact Blk.new _ _ _
set_option maxHeartbeats 400000 in
theorem over_no (A : Option Addr) (N c : Nat) (n : Int) (w : World) (hN : N ≤ maxLen) (h : n < 1 ∨ (N : Int) < n) :
    Calls Tryd.prog 76 #[.slice A N c, .int .i64 n] w fun e w' => e = .returned (.pointer none) ∧ w = w' := by
  unfold maxLen at hN
  have hg : decide (n < 1) = true ∨ (decide (n < 1) = false ∧ decide ((N : Int) < n) = true) := by simp; omega
  rcases hg with g1 | ⟨g1, g2⟩
  all_goals
    go_enter Tryd.func76, Tryd.ntmps76
    go_wp2_with fail
    go_ret
    exact ⟨rfl, rfl⟩

set_option maxHeartbeats 400000 in
theorem winSum_any (g b off N c n k : Nat) (bs : List UInt8) (w : World) (hw : Win w g b off N c n k bs) :
    Calls Tryd.prog 79 #[.pointer (some ⟨g, 0, none⟩)] w (U32Ret w (rsum (inw bs n k))) := by
  have c3 : w.cell? ⟨g, 3, none⟩ = some (.int .u16 (md (ra (inw bs n k)))) := hw.cell 3
  have c4 : w.cell? ⟨g, 4, none⟩ = some (.int .u16 (md (rb (inw bs n k)))) := hw.cell 4
  go_enter Tryd.func79, Tryd.ntmps79
  go_wp2_with fail
  refine (hsum_any _ _ (md_lo _) (md_hi _) (md_lo _) (md_hi _) _).mono ?_
  rintro e w1 ⟨rfl, hb1⟩
  go_wp2_with fail
  go_ret
  exact ⟨rfl, hb1⟩
set_option maxHeartbeats 400000 in
theorem winAt_any (g b off N c n k : Nat) (bs : List UInt8) (w : World) (hw : Win w g b off N c n k bs) :
    Calls Tryd.prog 77 #[.pointer (some ⟨g, 0, none⟩)] w fun e w' => e = .returned (.int .i64 (k : Int)) ∧ w = w' := by
  have c2 : w.cell? ⟨g, 2, none⟩ = some (.int .i64 (k : Int)) := hw.cell 2
  go_enter Tryd.func77, Tryd.ntmps77
  go_wp2_with fail
  go_ret
  exact ⟨rfl, rfl⟩
set_option maxHeartbeats 400000 in
theorem winNil_sum (w : World) : Calls Tryd.prog 79 #[.pointer none] w fun e w' => e = .returned (.int .u32 0) ∧ w = w' := by
  go_enter Tryd.func79, Tryd.ntmps79
  go_wp2_with fail
  go_ret
  exact ⟨rfl, rfl⟩
set_option maxHeartbeats 400000 in
theorem winNil_at (w : World) : Calls Tryd.prog 77 #[.pointer none] w fun e w' => e = .returned (.int .i64 0) ∧ w = w' := by
  go_enter Tryd.func77, Tryd.ntmps77
  go_wp2_with fail
  go_ret
  exact ⟨rfl, rfl⟩
end Go.Proofs.YtmnanbcinfdbaaaDoor
end

section
namespace Go.Proofs.YtmnanbcinfdbaaaDoor
open Go.RowKit Go.Proofs.U
set_option linter.unusedVariables false

theorem set_off (w : World) (g i j : Nat) (u : Value) (h : i ≠ j) : (w.setCell ⟨g, i, none⟩ u).cell? ⟨g, j, none⟩ = w.cell? ⟨g, j, none⟩ :=
  World.cell?_setCell_other _ _ _ _ (fun e => h (by simpa using congrArg Addr.off e))
def NoRet (w : World) (e : Ending) (w' : World) : Prop := e = .returned (.bool false) ∧ ∃ q, w' = w.drewN q

set_option maxRecDepth 100000 in
set_option maxHeartbeats 400000 in
theorem skipNil_any (x : Int) (w : World) : Calls Tryd.prog 81 #[.pointer none, .int .i64 x] w (NoRet w) := by
  go_enter Tryd.func81, Tryd.ntmps81
  go_wp2_with fail
  go_quiet (fail)
  go_wp2_with fail
  go_ret
  exact ⟨rfl, _, rfl⟩

set_option maxRecDepth 100000 in
set_option maxHeartbeats 400000 in
theorem skip_no (g b off N c n k : Nat) (bs : List UInt8) (w : World) (hw : Win w g b off N c n k bs) (hN : N ≤ 140737488355328) (hn : n ≤ N) (hk : k ≤ N) (x : Int) (hx : x < 0 ∨ (N : Int) - n - k < x) :
    Calls Tryd.prog 81 #[.pointer (some ⟨g, 0, none⟩), .int .i64 x] w (NoRet w) := by
  have c0 : w.cell? ⟨g, 0, none⟩ = some (.slice (some ⟨b, off, none⟩) N c) := hw.cell 0
  have c1 : w.cell? ⟨g, 1, none⟩ = some (.int .i64 (n : Int)) := hw.cell 1
  have c2 : w.cell? ⟨g, 2, none⟩ = some (.int .i64 (k : Int)) := hw.cell 2
  have hg : decide (x < 0) = true ∨ (decide (x < 0) = false ∧ decide ((N : Int) - n - k < x) = true) := by simp; omega
  rcases hg with g1 | ⟨g1, g2⟩
  all_goals
    go_enter Tryd.func81, Tryd.ntmps81
    go_wp2_with fail
    go_quiet (fail)
    go_wp2_with fail
    go_ret
    exact ⟨rfl, _, rfl⟩

set_option maxRecDepth 100000 in
set_option maxHeartbeats 1000000 in
theorem skip_far (g b off N c n k : Nat) (bs : List UInt8) (w : World) (hw : Win w g b off N c n k bs) (hb : BS w g (some ⟨b, off, none⟩) N bs) (hN : N ≤ 140737488355328) (hc : N ≤ c) (h1 : 1 ≤ n) (x : Nat) (hx : k + n + x ≤ N) (hxn : n ≤ x) :
    Calls Tryd.prog 81 #[.pointer (some ⟨g, 0, none⟩), .int .i64 (x : Int)] w (WinRet w g b off N c n (k + x) bs) := by
  have c0 : w.cell? ⟨g, 0, none⟩ = some (.slice (some ⟨b, off, none⟩) N c) := hw.cell 0
  have c1 : w.cell? ⟨g, 1, none⟩ = some (.int .i64 (n : Int)) := hw.cell 1
  have c2 : w.cell? ⟨g, 2, none⟩ = some (.int .i64 (k : Int)) := hw.cell 2
  have f2 := hw.frozen 2
  have g1 : decide ((x : Int) < 0) = false := by simp
  have g2 : decide ((N : Int) - n - k < x) = false := by simp; omega
  go_enter Tryd.func81, Tryd.ntmps81
  go_wp2_with fail
  go_quiet (fail)
  go_wp2_with fail
  rw [show ((k : Int) + (x : Int)) = ((k + x : Nat) : Int) by omega]
  have hkx : k + x + n ≤ N := by omega
  obtain ⟨K, hK⟩ : ∃ K, k + x = K := ⟨_, rfl⟩
  rw [hK] at hkx ⊢
  have HK := Lib.hid hK
  clear hK
  have hblk := (hw.drewN nq).set_ 2 (.int .i64 (K : Int))
  have hgr : w.grownBy ((w.drewN nq).setCell ⟨g, 2, none⟩ (.int .i64 (K : Int))) (some g) := only_setCell (only_drewN (World.grownBy.refl w _) nq) (.inl rfl) _
  have hbs : BS ((w.drewN nq).setCell ⟨g, 2, none⟩ (.int .i64 (K : Int))) g (some ⟨b, off + K, none⟩) n (inw bs n K) :=
    ((hb.keep (fun p hp => World.cell?_setCell_other _ _ _ _ (fun e => by subst e; simp at hp))).drop (k := K) (by omega)).take (by omega)
  generalize (w.drewN nq).setCell ⟨g, 2, none⟩ (.int .i64 (K : Int)) = W at hblk hgr hbs ⊢
  have hlt := hblk.lt
  have d0 : W.cell? ⟨g, 0, none⟩ = some (.slice (some ⟨b, off, none⟩) N c) := hblk.cell 0
  have d1 : W.cell? ⟨g, 1, none⟩ = some (.int .i64 (n : Int)) := hblk.cell 1
  have d2 : W.cell? ⟨g, 2, none⟩ = some (.int .i64 (K : Int)) := hblk.cell 2
  have i1 : IntKind.i64.wrap ((K : Int) + n) = (K : Int) + n := IntWalk.i64_in _ (by omega)
  have i2 : (0 : Int) ≤ (K : Int) + n := by omega
  have i3 : ((K : Int) + n).toNat = K + n := by omega
  have i4 : (K : Int) ≤ (K : Int) + n := by omega
  have i5 : (K : Int) + n ≤ (c : Int) := by omega
  have i6 : ¬ c = K := by omega
  have i7 : K + n - K = n := by omega
  clear c0 c1 c2 f2 g1 g2
  go_region_held3 (fun w' => w'.cell? ⟨g, 0, none⟩ = some (.slice (some ⟨b, off, none⟩) N c) ∧ w'.cell? ⟨g, 1, none⟩ = some (.int .i64 (n : Int)) ∧ w'.cell? ⟨g, 2, none⟩ = some (.int .i64 (K : Int))) (first | go_keep | (simp [*, set_off]))
    (first
      | (go_at_call 71; refine (rsum_any _ _ _ (inw bs n K) W.drew g hbs.drew (by simp; omega) (by unfold maxLen; omega)).mono ?_; rintro e w1 ⟨rfl, hb1⟩; obtain ⟨d0, d1, d2⟩ := And.intro (cell_stay (w := W.drew) hb1 d0) (And.intro (cell_stay (w := W.drew) hb1 d1) (cell_stay (w := W.drew) hb1 d2)))
      | (go_at_call 107; refine (hopen_any _ (rsum_bd _).1 (rsum_bd _).2 _).mono ?_; rintro e w2 ⟨rfl, hb2⟩; unfold hv; obtain ⟨d0, d1, d2⟩ := And.intro (cell_stay hb2 d0) (And.intro (cell_stay hb2 d1) (cell_stay hb2 d2)); have hblk2 := (hblk.drew.stay hb1).stay hb2; have e3 := hblk2.cell 3; have e4 := hblk2.cell 4; have q3 := hblk2.frozen 3; have q4 := hblk2.frozen 4))
  go_wp2_with fail
  go_ret
  have hgr2 := only_below (only_below (only_drew hgr) hb1) hb2
  refine ⟨rfl, ?_, only_setCell (only_setCell hgr2 (.inl rfl) _) (.inl rfl) _⟩
  unfold Win
  rw [HK.out, show md (ra (inw bs n K)) = md (rsum (inw bs n K)) from (lo_rsum _).symm, show md (rb (inw bs n K)) = md (rsum (inw bs n K) / 65536) from (hi_rsum _).symm]
  exact (hblk2.set_ 3 _).set_ 4 _

/-- the window one byte further: how its sum turns -/
theorem inw_next (bs : List UInt8) (n k : Nat) (h1 : 1 ≤ n) (x y : UInt8) (hx : bs[k]? = some x) (hy : bs[k + n]? = some y) :
    ∃ m, inw bs n k = x :: m ∧ inw bs n (k + 1) = m ++ [y] ∧ m.length + 1 = n := by
  obtain ⟨hk, rfl⟩ := List.getElem?_eq_some_iff.1 hx
  obtain ⟨hkn, rfl⟩ := List.getElem?_eq_some_iff.1 hy
  refine ⟨(bs.drop (k + 1)).take (n - 1), ?_, ?_, by simp; omega⟩
  · unfold inw
    obtain ⟨j, rfl⟩ : ∃ j, n = j + 1 := ⟨n - 1, by omega⟩
    rw [List.drop_eq_getElem_cons hk, List.take_succ_cons]
    simp
  · unfold inw
    obtain ⟨j, rfl⟩ : ∃ j, n = j + 1 := ⟨n - 1, by omega⟩
    rw [List.take_succ_eq_append_getElem (by simp; omega)]
    simp
    congr 1; omega
theorem win_step (bs : List UInt8) (n k : Nat) (h1 : 1 ≤ n) (x y : UInt8) (hx : bs[k]? = some x) (hy : bs[k + n]? = some y) :
    md (md (md (ra (inw bs n k)) - x.toNat) + y.toNat) = md (ra (inw bs n (k + 1))) ∧
    md (md (md (rb (inw bs n k)) - (n : Int) * x.toNat) + md (md (ra (inw bs n k)) - x.toNat) + y.toNat) = md (rb (inw bs n (k + 1))) := by
  obtain ⟨m, e1, e2, hl⟩ := inw_next bs n k h1 x y hx hy
  rw [e1, e2, ra_cons, ra_snoc, rb_snoc]
  simp only [rb]
  rw [show ((m.length + 1 : Nat) : Int) = (n : Int) by omega]
  generalize (n : Int) * (x.toNat : Int) = P
  unfold md; omega

set_option maxRecDepth 100000 in
set_option maxHeartbeats 2000000 in
theorem skip_near (g b off N c n k : Nat) (bs : List UInt8) (w : World) (hw : Win w g b off N c n k bs) (hb : BS w g (some ⟨b, off, none⟩) N bs) (hN : N ≤ 140737488355328) (hc : N ≤ c) (h1 : 1 ≤ n) (x : Nat) (hx : k + n + x ≤ N) (hxn : x < n) :
    Calls Tryd.prog 81 #[.pointer (some ⟨g, 0, none⟩), .int .i64 (x : Int)] w (WinRet w g b off N c n (k + x) bs) := by
  have c0 : w.cell? ⟨g, 0, none⟩ = some (.slice (some ⟨b, off, none⟩) N c) := hw.cell 0
  have c1 : w.cell? ⟨g, 1, none⟩ = some (.int .i64 (n : Int)) := hw.cell 1
  have c2 : w.cell? ⟨g, 2, none⟩ = some (.int .i64 (k : Int)) := hw.cell 2
  have g1 : decide ((x : Int) < 0) = false := by simp
  have g2 : decide ((N : Int) - n - k < x) = false := by simp; omega
  have g3 : decide (n ≤ x) = false := by simp; omega
  go_enter Tryd.func81, Tryd.ntmps81
  go_wp2_with fail
  go_quiet (fail)
  go_wp2_with fail
  clear c0 c1 c2 g1 g2 g3
  go_loopw [68] (fun i wr => ∃ j : Nat, j ≤ x ∧ i = .int .i64 j ∧ Win wr g b off N c n (k + j) bs ∧ w.grownBy wr (some g)) (fun i _ => x - (intOf i).toNat)
  case atStart => exact ⟨0, Nat.zero_le _, rfl, hw.drewN _, only_drewN (World.grownBy.refl w _) _⟩
  case round =>
    obtain ⟨j, hj, rfl, hwr, hgr⟩ := hrel
    obtain ⟨wo, rfl⟩ : ∃ wo : World, wo = wr := ⟨_, rfl⟩
    have hlt := hwr.lt
    have c0 : wo.cell? ⟨g, 0, none⟩ = some (.slice (some ⟨b, off, none⟩) N c) := hwr.cell 0
    have c1 : wo.cell? ⟨g, 1, none⟩ = some (.int .i64 (n : Int)) := hwr.cell 1
    have c2 : wo.cell? ⟨g, 2, none⟩ = some (.int .i64 ((k + j : Nat) : Int)) := hwr.cell 2
    have c3 : wo.cell? ⟨g, 3, none⟩ = some (.int .u16 (md (ra (inw bs n (k + j))))) := hwr.cell 3
    have c4 : wo.cell? ⟨g, 4, none⟩ = some (.int .u16 (md (rb (inw bs n (k + j))))) := hwr.cell 4
    by_cases hjx : j < x
    · have hbs : BS wo g (some ⟨b, off, none⟩) N bs := hb.grown hgr (by have := hw.lt; omega) (fun g' hg' => by injection hg'; omega)
      have hlen := hb.1
      obtain ⟨x1, hx1⟩ : ∃ y, bs[k + j]? = some y := ⟨_, List.getElem?_eq_getElem (by omega)⟩
      obtain ⟨x2, hx2⟩ : ∃ y, bs[k + j + n]? = some y := ⟨_, List.getElem?_eq_getElem (by omega)⟩
      have d1 := hbs.cells _ _ hx1
      have d2 := hbs.cells _ _ hx2
      have HS := Lib.hid (win_step bs n (k + j) h1 x1 x2 hx1 hx2)
      clear hx1 hx2 hbs
      have hjk : k + j + n < N := by omega
      have hkj1 : k + (j + 1) = k + j + 1 := by omega
      have HK := Lib.hid hkj1
      clear hkj1
      generalize k + j = K at *
      have i1 : IntKind.i64.wrap ((K : Int) + n) = (K : Int) + n := IntWalk.i64_in _ (by omega)
      have i2 : (0 : Int) ≤ (K : Int) + n := by omega
      have i3 : ((K : Int) + n).toNat = K + n := by omega
      have i4 : (K : Int) + n < (N : Int) := by omega
      have i5 : (K : Int) < (N : Int) := by omega
      go_wp2_with fail
      have HF : ∀ w', Below wo.heap.size wo w' → w'.cell? ⟨g, 0, none⟩ = some (.slice (some ⟨b, off, none⟩) N c) ∧ w'.cell? ⟨g, 1, none⟩ = some (.int .i64 (n : Int)) ∧ w'.cell? ⟨g, 2, none⟩ = some (.int .i64 (K : Int)) ∧
          w'.cell? ⟨g, 3, none⟩ = some (.int .u16 (md (ra (inw bs n K)))) ∧ w'.cell? ⟨g, 4, none⟩ = some (.int .u16 (md (rb (inw bs n K)))) ∧
          w'.cell? ⟨b, off + K, none⟩ = some (.int .u8 (x1.toNat : Int)) ∧ w'.cell? ⟨b, off + (K + n), none⟩ = some (.int .u8 (x2.toNat : Int)) := fun w' hb' =>
        ⟨cell_stay hb' c0, cell_stay hb' c1, cell_stay hb' c2, cell_stay hb' c3, cell_stay hb' c4, cell_stay hb' d1, cell_stay hb' d2⟩
      have HHF := Lib.hid HF
      clear HF c0 c1 c2 c3 c4 d1 d2
      refine wp_region_class_tail (C := fun w' => Below wo.heap.size wo w') 38 (by kernel_rfl) (by kernel_rfl) ((Below.refl _ _).drew) ?_
      simp only [List.take_succ_cons, List.take_zero, List.drop_succ_cons, List.drop_zero]
      repeat
        (refine wpQuiet_step (fun K hK => ?_)
         rw [if_pos (by rfl)]
         apply Exists.intro
         refine ⟨fun w' hw' => ?_, hK _ ?_⟩
         · obtain ⟨e0, e1, e2, e3, e4, e5, e6⟩ := HHF.out w' hw'
           go_simp
           first
             | done
             | rfl
             | (refine (hpop_any _ _ _ x1 w').mono ?_
                rintro e w1 ⟨rfl, hb1⟩
                exact ⟨rfl, hw'.trans (hb1.mono hw'.size)⟩)
             | (refine (hpush_any _ _ x2 w').mono ?_
                rintro e w1 ⟨rfl, hb1⟩
                exact ⟨rfl, hw'.trans (hb1.mono hw'.size)⟩)
         clear hK K
         go_simp)
      refine wpQuiet_nil ?_
      intro w' hw'
      obtain ⟨e0, e1, e2, e3, e4, e5, e6⟩ := HHF.out w' hw'
      have hblk := Blk.stay hwr hw'
      have q2 := hblk.frozen 2
      have q3 := hblk.frozen 3
      have q4 := hblk.frozen 4
      have hgr2 := only_below hgr hw'
      clear HHF hwr
      unfold hv
      go_wp2_with fail
      obtain ⟨s1, s2⟩ := HS.out
      have hK := HK.out
      go_roundw
      case rel =>
        refine ⟨j + 1, by omega, by go_num, ?_, only_setCell (only_setCell (only_setCell hgr2 (.inl rfl) _) (.inl rfl) _) (.inl rfl) _⟩
        unfold Win
        rw [hK, ← s1, ← s2]
        exact ((hblk.set_ 3 _).set_ 4 _).set_ 2 _
      case measure => simp [intOf]; omega
    · have hjx : j = x := by omega
      subst hjx
      go_wp2_with fail
      go_ret
      exact ⟨rfl, hwr, hgr⟩

theorem skip_yes (g b off N c n k : Nat) (bs : List UInt8) (w : World) (hw : Win w g b off N c n k bs) (hb : BS w g (some ⟨b, off, none⟩) N bs) (hN : N ≤ 140737488355328) (hc : N ≤ c) (h1 : 1 ≤ n) (x : Nat) (hx : k + n + x ≤ N) :
    Calls Tryd.prog 81 #[.pointer (some ⟨g, 0, none⟩), .int .i64 (x : Int)] w (WinRet w g b off N c n (k + x) bs) := by
  by_cases h : n ≤ x
  · exact skip_far g b off N c n k bs w hw hb hN hc h1 x hx h
  · exact skip_near g b off N c n k bs w hw hb hN hc h1 x hx (by omega)

set_option maxRecDepth 100000 in
set_option maxHeartbeats 400000 in
theorem next_yes (g b off N c n k : Nat) (bs : List UInt8) (w : World) (hw : Win w g b off N c n k bs) (hb : BS w g (some ⟨b, off, none⟩) N bs) (hN : N ≤ 140737488355328) (hc : N ≤ c) (h1 : 1 ≤ n) (hx : k + n + 1 ≤ N) :
    Calls Tryd.prog 83 #[.pointer (some ⟨g, 0, none⟩)] w (WinRet w g b off N c n (k + 1) bs) := by
  go_enter Tryd.func83, Tryd.ntmps83
  go_wp2_with fail
  refine (skip_yes g b off N c n k bs w hw hb hN hc h1 1 hx).mono ?_
  rintro e w1 ⟨rfl, hw1, hg1⟩
  go_wp2_with fail
  go_ret
  exact ⟨rfl, hw1, hg1⟩
set_option maxRecDepth 100000 in
set_option maxHeartbeats 400000 in
theorem next_no (g b off N c n k : Nat) (bs : List UInt8) (w : World) (hw : Win w g b off N c n k bs) (hN : N ≤ 140737488355328) (hn : n ≤ N) (hk : k ≤ N) (hx : (N : Int) - n - k < 1) :
    Calls Tryd.prog 83 #[.pointer (some ⟨g, 0, none⟩)] w (NoRet w) := by
  go_enter Tryd.func83, Tryd.ntmps83
  go_wp2_with fail
  refine (skip_no g b off N c n k bs w hw hN hn hk 1 (.inr hx)).mono ?_
  rintro e w1 ⟨rfl, q, rfl⟩
  go_wp2_with fail
  go_ret
  exact ⟨rfl, _, rfl⟩
set_option maxRecDepth 100000 in
set_option maxHeartbeats 400000 in
theorem nextNil_any (w : World) : Calls Tryd.prog 83 #[.pointer none] w (NoRet w) := by
  go_enter Tryd.func83, Tryd.ntmps83
  go_wp2_with fail
  refine (skipNil_any 1 w).mono ?_
  rintro e w1 ⟨rfl, q, rfl⟩
  go_wp2_with fail
  go_ret
  exact ⟨rfl, _, rfl⟩
end Go.Proofs.YtmnanbcinfdbaaaDoor
end
