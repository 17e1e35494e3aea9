/- The walks of msg.bounds and msg.lengths; conditions: none beyond their hypotheses. -/
import Derived.Test.YthhhiiagppckhaaGreatDoorMgMs9
set_option linter.unusedSimpArgs false
set_option linter.unusedVariables false
section
namespace Go.Proofs.YthhhiiagppckhaaGreatDoor
open Go.RowKit Go.Proofs.U
set_option linter.unusedVariables false

theorem all_take {l : List UInt8} {k : Nat} {c : UInt8} {p : UInt8 → Bool} (h : l[k]? = some c) (h1 : (l.take k).all p = true) (h2 : p c = true) : (l.take (k + 1)).all p = true := by
  rw [List.take_add_one, h, List.all_append, h1]; simp [h2]
theorem all_not {l : List UInt8} {k : Nat} {c : UInt8} {p : UInt8 → Bool} (h : l[k]? = some c) (h2 : p c = false) : l.all p = false := by
  rw [List.all_eq_false]; exact ⟨c, List.mem_of_getElem? h, by simp [h2]⟩
theorem below_iter {B k : Nat} {w0 w : World} {s : ByteArray} {p : Nat} (h : Below B w0 w) (hk : B ≤ k) : Below B w0 (w.iterAt k s p) :=
  ⟨h.os, h.tape, h.output, by simp [World.iterAt]; exact h.size, fun j hj => (Lib.iterAt_other w k j s p (by omega)).trans (h.block j hj)⟩
theorem blk_iter {w : World} {k g : Nat} {s : ByteArray} {p p' : Nat} {T : TypeId} {cs : Array Value} (hk : w.heap[k]? = some (.stringIter s p)) (h : Blk w g T cs) : Blk (w.iterAt k s p') g T cs := by
  have hne : g ≠ k := by rintro rfl; unfold Blk at h; rw [hk] at h; cases h
  unfold Blk; rw [Lib.iterAt_other w k g s p' hne]; exact h
theorem rowBad_all (l : List Ms.Rw) : (l.all fun x => Ms.inb x.kind 2 && Ms.inb x.size 4096) = !(l.any rowBad) := by
  unfold rowBad; rw [Bool.eq_iff_iff]; simp
theorem rowLong_all (l : List Ms.Rw) : (l.all fun x => decide (x.path.length ≤ 96)) = !(l.any rowLong) := by
  unfold rowLong; rw [Bool.eq_iff_iff]; simp
set_option maxRecDepth 100000 in
set_option maxHeartbeats 8000000 in
theorem mbounds_any (B0 : Nat) (m : Ms.Msg) (v : Value) (ls : List UInt8) (hls : ∀ c ∈ ls, c ∈ Ms.alpha) (w : World) (h : MsgV w B0 m v) (hr : m.rows.length ≤ 1000000000) :
    Calls Tryz.prog 68 #[v, .string (strOf ls)] w fun e w' => e = .returned (.bool (ls.all fun c => Ms.bnd c m)) ∧ Below w.heap.size w w' := by
  obtain ⟨A, c, A2, c2, rfl, ha1, ha2, ha3, ha4⟩ := h
  obtain ⟨R, hR⟩ : ∃ R, R = ls.all fun c => Ms.bnd c m := ⟨_, rfl⟩
  rw [← hR]
  have HR := Lib.hid hR
  clear hR
  have HL := Lib.hid hls
  clear hls
  have hw1 : ∃ w1, w1 = (w.alloc (.cells (mCells m A c A2 c2) 27)) := ⟨_, rfl⟩
  have hk1 : Blk (w.alloc (.cells (mCells m A c A2 c2) 27)) w.heap.size 27 (mCells m A c A2 c2) := Blk.new w _ _
  have hb1 := alloc_b w (.cells (mCells m A c A2 c2) 27)
  have hz1 : (w.alloc (.cells (mCells m A c A2 c2) 27)).heap.size = w.heap.size + 1 := by simp
  simp only [mCells] at hk1 hb1 hz1 hw1 ⊢
  go_enter Tryz.func68, Tryz.ntmps68
  go_wp2_with fail
  obtain ⟨w1, hw1⟩ := hw1
  rw [← hw1] at hk1 hb1 hz1 ⊢
  try rw [hz1]
  clear hw1
  have hi0 : (w1.iter (strOf ls) 0).heap[w.heap.size + 1]? = some (.stringIter (strOf ls) 0) := by rw [← hz1]; exact World.iter_heap w1 (strOf ls) 0
  have hb0 : Below w1.heap.size w1 (w1.iter (strOf ls) 0) := alloc_b w1 _
  have hk0 := hk1.stay hb0
  have hbw0 := hb1.trans (hb0.mono hb1.size)
  generalize w1.iter (strOf ls) 0 = w2 at hi0 hk0 hbw0 ⊢
  clear hb0 hk1 hb1 hz1
  go_loopg [6] ls.length (fun r _ wr => ∃ (pos : Nat), r + pos = ls.length ∧ wr.heap[w.heap.size + 1]? = some (.stringIter (strOf ls) pos) ∧ Blk wr w.heap.size 27 (mCells m A c A2 c2) ∧ Below w.heap.size w wr ∧ Hid ((ls.take pos).all (fun c => Ms.bnd c m) = true))
  case atStart => exact ⟨0, by omega, hi0, hk0, hbw0, Lib.hid rfl⟩
  case round =>
    obtain ⟨pos, hpos, hit, hk, hbw, HS⟩ := hrel
    obtain ⟨wo, rfl⟩ : ∃ wo : World, wo = wr := ⟨_, rfl⟩
    clear hi0 hk0 hbw0
    by_cases hk0 : gk = 0
    · subst hk0
      have hnx : ∀ ty, (Instr.next (.pointer (some ⟨w.heap.size + 1, 0, none⟩)) true ty).run Tryz.prog wo = _ := fun ty => Lib.run_next_end_at wo (w.heap.size + 1) (strOf ls) pos ty hit (by rw [str_size]; omega)
      go_wp2_with fail
      go_ret
      have hE := HR.out
      have h2 := HS.out
      rw [List.take_of_length_le (by omega)] at h2
      rw [h2] at hE
      subst hE
      exact ⟨rfl, hbw⟩
    · obtain ⟨cc, hc⟩ : ∃ cc, ls[pos]? = some cc := ⟨_, List.getElem?_eq_getElem (by omega)⟩
      have hca := HL.out cc (List.mem_of_getElem? hc)
      have hnx := fun ty => next_letter (P := Tryz.prog) wo (w.heap.size + 1) ls pos ty cc hit hc (alpha_ascii cc hca)
      have hit1 := Lib.iterAt_heap wo (w.heap.size + 1) (strOf ls) pos (pos + 1) hit
      have hk1 := blk_iter (p' := pos + 1) hit hk
      have hb1 := below_iter (s := strOf ls) (p := pos + 1) hbw (Nat.le_succ w.heap.size)
      generalize wo.iterAt (w.heap.size + 1) (strOf ls) (pos + 1) = w1 at hnx hit1 hk1 hb1
      have HC := Lib.hid hc
      have hgo : Ms.bnd cc m = true → (ls.take (pos + 1)).all (fun c => Ms.bnd c m) = true := fun h => all_take hc HS.out h
      have hno : Ms.bnd cc m = false → R = false := fun h => HR.out.trans (all_not hc h)
      have HG := Lib.hid (And.intro hgo hno)
      clear hgo hno hc HS hit hk hbw
      simp only [Ms.alpha, List.mem_cons, List.not_mem_nil, or_false] at hca
      rcases hca with rfl | rfl | rfl | rfl | rfl | rfl | rfl | rfl | rfl | rfl | rfl | rfl | rfl | rfl | rfl
      · have hnum : Calls Tryz.prog 47 #[.pointer (some ⟨w.heap.size, 0, none⟩), .int .i32 112] w1 (fun e w2 => e = .returned (.tuple #[.pointer (some ⟨w.heap.size, 3, none⟩), .int .i64 255, .bool true]) ∧ w2 = w1) := mnum_any w.heap.size 112 (by decide) _ rfl w1 hk1
        have hnx1 := hnx
        simp only [UInt8.toNat_ofNat, Nat.reducePow, Nat.reduceMod] at hnx1
        clear hnx
        have x := hk1.cell 3
        simp [mCells] at x
        have hB : ∀ b : Bool, (b = true ↔ (0 ≤ m.proto ∧ m.proto ≤ 255)) → Ms.bnd 112 m = b := fun b hb => by
          show Ms.inb m.proto 255 = b
          unfold Ms.inb; rw [Bool.eq_iff_iff, hb, decide_eq_true_eq]
        by_cases b1 : m.proto < 0
        · go_wp2_with (go_at_call 47; refine hnum.mono ?_; rintro e w' ⟨rfl, rfl⟩)
          all_goals first
           | (go_ret; exact ⟨congrArg (fun b => Ending.returned (Value.bool b)) (HG.out.2 (hB false (by simp; omega))).symm, hb1⟩)
           | (go_roundg (gk - 1); (case measure => omega); (case rel => exact ⟨pos + 1, by omega, hit1, hk1, hb1, Lib.hid (HG.out.1 (hB true (by simp; omega)))⟩))
        · by_cases b2 : 255 < m.proto
          · go_wp2_with (go_at_call 47; refine hnum.mono ?_; rintro e w' ⟨rfl, rfl⟩)
            all_goals first
             | (go_ret; exact ⟨congrArg (fun b => Ending.returned (Value.bool b)) (HG.out.2 (hB false (by simp; omega))).symm, hb1⟩)
             | (go_roundg (gk - 1); (case measure => omega); (case rel => exact ⟨pos + 1, by omega, hit1, hk1, hb1, Lib.hid (HG.out.1 (hB true (by simp; omega)))⟩))
          · go_wp2_with (go_at_call 47; refine hnum.mono ?_; rintro e w' ⟨rfl, rfl⟩)
            all_goals first
             | (go_roundg (gk - 1); (case measure => omega); (case rel => exact ⟨pos + 1, by omega, hit1, hk1, hb1, Lib.hid (HG.out.1 (hB true (by simp; omega)))⟩))
             | (go_ret; exact ⟨congrArg (fun b => Ending.returned (Value.bool b)) (HG.out.2 (hB false (by simp; omega))).symm, hb1⟩)
      · have hnum : Calls Tryz.prog 47 #[.pointer (some ⟨w.heap.size, 0, none⟩), .int .i32 115] w1 (fun e w2 => e = .returned (.tuple #[.pointer none, .int .i64 0, .bool false]) ∧ w2 = w1) := mnum_any w.heap.size 115 (by decide) _ rfl w1 hk1
        have hnx1 := hnx
        simp only [UInt8.toNat_ofNat, Nat.reducePow, Nat.reduceMod] at hnx1
        clear hnx
        go_wp2_with (go_at_call 47; refine hnum.mono ?_; rintro e w' ⟨rfl, rfl⟩)
        (go_roundg (gk - 1); (case measure => omega); (case rel => exact ⟨pos + 1, by omega, hit1, hk1, hb1, Lib.hid (HG.out.1 rfl)⟩))
      · have hnum : Calls Tryz.prog 47 #[.pointer (some ⟨w.heap.size, 0, none⟩), .int .i32 110] w1 (fun e w2 => e = .returned (.tuple #[.pointer none, .int .i64 0, .bool false]) ∧ w2 = w1) := mnum_any w.heap.size 110 (by decide) _ rfl w1 hk1
        have hnx1 := hnx
        simp only [UInt8.toNat_ofNat, Nat.reducePow, Nat.reduceMod] at hnx1
        clear hnx
        go_wp2_with (go_at_call 47; refine hnum.mono ?_; rintro e w' ⟨rfl, rfl⟩)
        (go_roundg (gk - 1); (case measure => omega); (case rel => exact ⟨pos + 1, by omega, hit1, hk1, hb1, Lib.hid (HG.out.1 rfl)⟩))
      · have hnum : Calls Tryz.prog 47 #[.pointer (some ⟨w.heap.size, 0, none⟩), .int .i32 102] w1 (fun e w2 => e = .returned (.tuple #[.pointer none, .int .i64 0, .bool false]) ∧ w2 = w1) := mnum_any w.heap.size 102 (by decide) _ rfl w1 hk1
        have hnx1 := hnx
        simp only [UInt8.toNat_ofNat, Nat.reducePow, Nat.reduceMod] at hnx1
        clear hnx
        go_wp2_with (go_at_call 47; refine hnum.mono ?_; rintro e w' ⟨rfl, rfl⟩)
        (go_roundg (gk - 1); (case measure => omega); (case rel => exact ⟨pos + 1, by omega, hit1, hk1, hb1, Lib.hid (HG.out.1 rfl)⟩))
      · have hnum : Calls Tryz.prog 47 #[.pointer (some ⟨w.heap.size, 0, none⟩), .int .i32 80] w1 (fun e w2 => e = .returned (.tuple #[.pointer none, .int .i64 0, .bool false]) ∧ w2 = w1) := mnum_any w.heap.size 80 (by decide) _ rfl w1 hk1
        have hnx1 := hnx
        simp only [UInt8.toNat_ofNat, Nat.reducePow, Nat.reduceMod] at hnx1
        clear hnx
        go_wp2_with (go_at_call 47; refine hnum.mono ?_; rintro e w' ⟨rfl, rfl⟩)
        (go_roundg (gk - 1); (case measure => omega); (case rel => exact ⟨pos + 1, by omega, hit1, hk1, hb1, Lib.hid (HG.out.1 rfl)⟩))
      · have hnum : Calls Tryz.prog 47 #[.pointer (some ⟨w.heap.size, 0, none⟩), .int .i32 119] w1 (fun e w2 => e = .returned (.tuple #[.pointer (some ⟨w.heap.size, 5, none⟩), .int .i64 2, .bool true]) ∧ w2 = w1) := mnum_any w.heap.size 119 (by decide) _ rfl w1 hk1
        have hnx1 := hnx
        simp only [UInt8.toNat_ofNat, Nat.reducePow, Nat.reduceMod] at hnx1
        clear hnx
        have x := hk1.cell 5
        simp [mCells] at x
        have hB : ∀ b : Bool, (b = true ↔ (0 ≤ m.what ∧ m.what ≤ 2)) → Ms.bnd 119 m = b := fun b hb => by
          show Ms.inb m.what 2 = b
          unfold Ms.inb; rw [Bool.eq_iff_iff, hb, decide_eq_true_eq]
        by_cases b1 : m.what < 0
        · go_wp2_with (go_at_call 47; refine hnum.mono ?_; rintro e w' ⟨rfl, rfl⟩)
          all_goals first
           | (go_ret; exact ⟨congrArg (fun b => Ending.returned (Value.bool b)) (HG.out.2 (hB false (by simp; omega))).symm, hb1⟩)
           | (go_roundg (gk - 1); (case measure => omega); (case rel => exact ⟨pos + 1, by omega, hit1, hk1, hb1, Lib.hid (HG.out.1 (hB true (by simp; omega)))⟩))
        · by_cases b2 : 2 < m.what
          · go_wp2_with (go_at_call 47; refine hnum.mono ?_; rintro e w' ⟨rfl, rfl⟩)
            all_goals first
             | (go_ret; exact ⟨congrArg (fun b => Ending.returned (Value.bool b)) (HG.out.2 (hB false (by simp; omega))).symm, hb1⟩)
             | (go_roundg (gk - 1); (case measure => omega); (case rel => exact ⟨pos + 1, by omega, hit1, hk1, hb1, Lib.hid (HG.out.1 (hB true (by simp; omega)))⟩))
          · go_wp2_with (go_at_call 47; refine hnum.mono ?_; rintro e w' ⟨rfl, rfl⟩)
            all_goals first
             | (go_roundg (gk - 1); (case measure => omega); (case rel => exact ⟨pos + 1, by omega, hit1, hk1, hb1, Lib.hid (HG.out.1 (hB true (by simp; omega)))⟩))
             | (go_ret; exact ⟨congrArg (fun b => Ending.returned (Value.bool b)) (HG.out.2 (hB false (by simp; omega))).symm, hb1⟩)
      · have hnum : Calls Tryz.prog 47 #[.pointer (some ⟨w.heap.size, 0, none⟩), .int .i32 118] w1 (fun e w2 => e = .returned (.tuple #[.pointer none, .int .i64 0, .bool false]) ∧ w2 = w1) := mnum_any w.heap.size 118 (by decide) _ rfl w1 hk1
        have hnx1 := hnx
        simp only [UInt8.toNat_ofNat, Nat.reducePow, Nat.reduceMod] at hnx1
        clear hnx
        go_wp2_with (go_at_call 47; refine hnum.mono ?_; rintro e w' ⟨rfl, rfl⟩)
        (go_roundg (gk - 1); (case measure => omega); (case rel => exact ⟨pos + 1, by omega, hit1, hk1, hb1, Lib.hid (HG.out.1 rfl)⟩))
      · have hnum : Calls Tryz.prog 47 #[.pointer (some ⟨w.heap.size, 0, none⟩), .int .i32 97] w1 (fun e w2 => e = .returned (.tuple #[.pointer none, .int .i64 0, .bool false]) ∧ w2 = w1) := mnum_any w.heap.size 97 (by decide) _ rfl w1 hk1
        have hnx1 := hnx
        simp only [UInt8.toNat_ofNat, Nat.reducePow, Nat.reduceMod] at hnx1
        clear hnx
        go_wp2_with (go_at_call 47; refine hnum.mono ?_; rintro e w' ⟨rfl, rfl⟩)
        (go_roundg (gk - 1); (case measure => omega); (case rel => exact ⟨pos + 1, by omega, hit1, hk1, hb1, Lib.hid (HG.out.1 rfl)⟩))
      · have hnum : Calls Tryz.prog 47 #[.pointer (some ⟨w.heap.size, 0, none⟩), .int .i32 116] w1 (fun e w2 => e = .returned (.tuple #[.pointer none, .int .i64 0, .bool false]) ∧ w2 = w1) := mnum_any w.heap.size 116 (by decide) _ rfl w1 hk1
        have hnx1 := hnx
        simp only [UInt8.toNat_ofNat, Nat.reducePow, Nat.reduceMod] at hnx1
        clear hnx
        go_wp2_with (go_at_call 47; refine hnum.mono ?_; rintro e w' ⟨rfl, rfl⟩)
        (go_roundg (gk - 1); (case measure => omega); (case rel => exact ⟨pos + 1, by omega, hit1, hk1, hb1, Lib.hid (HG.out.1 rfl)⟩))
      · have hnum : Calls Tryz.prog 47 #[.pointer (some ⟨w.heap.size, 0, none⟩), .int .i32 111] w1 (fun e w2 => e = .returned (.tuple #[.pointer (some ⟨w.heap.size, 9, none⟩), .int .i64 8300, .bool true]) ∧ w2 = w1) := mnum_any w.heap.size 111 (by decide) _ rfl w1 hk1
        have hnx1 := hnx
        simp only [UInt8.toNat_ofNat, Nat.reducePow, Nat.reduceMod] at hnx1
        clear hnx
        have x := hk1.cell 9
        simp [mCells] at x
        have hB : ∀ b : Bool, (b = true ↔ (0 ≤ m.offset ∧ m.offset ≤ 8300)) → Ms.bnd 111 m = b := fun b hb => by
          show Ms.inb m.offset 8300 = b
          unfold Ms.inb; rw [Bool.eq_iff_iff, hb, decide_eq_true_eq]
        by_cases b1 : m.offset < 0
        · go_wp2_with (go_at_call 47; refine hnum.mono ?_; rintro e w' ⟨rfl, rfl⟩)
          all_goals first
           | (go_ret; exact ⟨congrArg (fun b => Ending.returned (Value.bool b)) (HG.out.2 (hB false (by simp; omega))).symm, hb1⟩)
           | (go_roundg (gk - 1); (case measure => omega); (case rel => exact ⟨pos + 1, by omega, hit1, hk1, hb1, Lib.hid (HG.out.1 (hB true (by simp; omega)))⟩))
        · by_cases b2 : 8300 < m.offset
          · go_wp2_with (go_at_call 47; refine hnum.mono ?_; rintro e w' ⟨rfl, rfl⟩)
            all_goals first
             | (go_ret; exact ⟨congrArg (fun b => Ending.returned (Value.bool b)) (HG.out.2 (hB false (by simp; omega))).symm, hb1⟩)
             | (go_roundg (gk - 1); (case measure => omega); (case rel => exact ⟨pos + 1, by omega, hit1, hk1, hb1, Lib.hid (HG.out.1 (hB true (by simp; omega)))⟩))
          · go_wp2_with (go_at_call 47; refine hnum.mono ?_; rintro e w' ⟨rfl, rfl⟩)
            all_goals first
             | (go_roundg (gk - 1); (case measure => omega); (case rel => exact ⟨pos + 1, by omega, hit1, hk1, hb1, Lib.hid (HG.out.1 (hB true (by simp; omega)))⟩))
             | (go_ret; exact ⟨congrArg (fun b => Ending.returned (Value.bool b)) (HG.out.2 (hB false (by simp; omega))).symm, hb1⟩)
      · have hnum : Calls Tryz.prog 47 #[.pointer (some ⟨w.heap.size, 0, none⟩), .int .i32 84] w1 (fun e w2 => e = .returned (.tuple #[.pointer (some ⟨w.heap.size, 10, none⟩), .int .i64 8300, .bool true]) ∧ w2 = w1) := mnum_any w.heap.size 84 (by decide) _ rfl w1 hk1
        have hnx1 := hnx
        simp only [UInt8.toNat_ofNat, Nat.reducePow, Nat.reduceMod] at hnx1
        clear hnx
        have x := hk1.cell 10
        simp [mCells] at x
        have hB : ∀ b : Bool, (b = true ↔ (0 ≤ m.total ∧ m.total ≤ 8300)) → Ms.bnd 84 m = b := fun b hb => by
          show Ms.inb m.total 8300 = b
          unfold Ms.inb; rw [Bool.eq_iff_iff, hb, decide_eq_true_eq]
        by_cases b1 : m.total < 0
        · go_wp2_with (go_at_call 47; refine hnum.mono ?_; rintro e w' ⟨rfl, rfl⟩)
          all_goals first
           | (go_ret; exact ⟨congrArg (fun b => Ending.returned (Value.bool b)) (HG.out.2 (hB false (by simp; omega))).symm, hb1⟩)
           | (go_roundg (gk - 1); (case measure => omega); (case rel => exact ⟨pos + 1, by omega, hit1, hk1, hb1, Lib.hid (HG.out.1 (hB true (by simp; omega)))⟩))
        · by_cases b2 : 8300 < m.total
          · go_wp2_with (go_at_call 47; refine hnum.mono ?_; rintro e w' ⟨rfl, rfl⟩)
            all_goals first
             | (go_ret; exact ⟨congrArg (fun b => Ending.returned (Value.bool b)) (HG.out.2 (hB false (by simp; omega))).symm, hb1⟩)
             | (go_roundg (gk - 1); (case measure => omega); (case rel => exact ⟨pos + 1, by omega, hit1, hk1, hb1, Lib.hid (HG.out.1 (hB true (by simp; omega)))⟩))
          · go_wp2_with (go_at_call 47; refine hnum.mono ?_; rintro e w' ⟨rfl, rfl⟩)
            all_goals first
             | (go_roundg (gk - 1); (case measure => omega); (case rel => exact ⟨pos + 1, by omega, hit1, hk1, hb1, Lib.hid (HG.out.1 (hB true (by simp; omega)))⟩))
             | (go_ret; exact ⟨congrArg (fun b => Ending.returned (Value.bool b)) (HG.out.2 (hB false (by simp; omega))).symm, hb1⟩)
      · have hnum : Calls Tryz.prog 47 #[.pointer (some ⟨w.heap.size, 0, none⟩), .int .i32 122] w1 (fun e w2 => e = .returned (.tuple #[.pointer (some ⟨w.heap.size, 11, none⟩), .int .i64 4096, .bool true]) ∧ w2 = w1) := mnum_any w.heap.size 122 (by decide) _ rfl w1 hk1
        have hnx1 := hnx
        simp only [UInt8.toNat_ofNat, Nat.reducePow, Nat.reduceMod] at hnx1
        clear hnx
        have x := hk1.cell 11
        simp [mCells] at x
        have hB : ∀ b : Bool, (b = true ↔ (0 ≤ m.size ∧ m.size ≤ 4096)) → Ms.bnd 122 m = b := fun b hb => by
          show Ms.inb m.size 4096 = b
          unfold Ms.inb; rw [Bool.eq_iff_iff, hb, decide_eq_true_eq]
        by_cases b1 : m.size < 0
        · go_wp2_with (go_at_call 47; refine hnum.mono ?_; rintro e w' ⟨rfl, rfl⟩)
          all_goals first
           | (go_ret; exact ⟨congrArg (fun b => Ending.returned (Value.bool b)) (HG.out.2 (hB false (by simp; omega))).symm, hb1⟩)
           | (go_roundg (gk - 1); (case measure => omega); (case rel => exact ⟨pos + 1, by omega, hit1, hk1, hb1, Lib.hid (HG.out.1 (hB true (by simp; omega)))⟩))
        · by_cases b2 : 4096 < m.size
          · go_wp2_with (go_at_call 47; refine hnum.mono ?_; rintro e w' ⟨rfl, rfl⟩)
            all_goals first
             | (go_ret; exact ⟨congrArg (fun b => Ending.returned (Value.bool b)) (HG.out.2 (hB false (by simp; omega))).symm, hb1⟩)
             | (go_roundg (gk - 1); (case measure => omega); (case rel => exact ⟨pos + 1, by omega, hit1, hk1, hb1, Lib.hid (HG.out.1 (hB true (by simp; omega)))⟩))
          · go_wp2_with (go_at_call 47; refine hnum.mono ?_; rintro e w' ⟨rfl, rfl⟩)
            all_goals first
             | (go_roundg (gk - 1); (case measure => omega); (case rel => exact ⟨pos + 1, by omega, hit1, hk1, hb1, Lib.hid (HG.out.1 (hB true (by simp; omega)))⟩))
             | (go_ret; exact ⟨congrArg (fun b => Ending.returned (Value.bool b)) (HG.out.2 (hB false (by simp; omega))).symm, hb1⟩)
      · have hnum : Calls Tryz.prog 47 #[.pointer (some ⟨w.heap.size, 0, none⟩), .int .i32 99] w1 (fun e w2 => e = .returned (.tuple #[.pointer none, .int .i64 0, .bool false]) ∧ w2 = w1) := mnum_any w.heap.size 99 (by decide) _ rfl w1 hk1
        have hnx1 := hnx
        simp only [UInt8.toNat_ofNat, Nat.reducePow, Nat.reduceMod] at hnx1
        clear hnx
        have x := hk1.cell 12
        simp [mCells] at x
        have hB : ∀ b : Bool, (b = true ↔ (0 ≤ m.code ∧ m.code ≤ 99)) → Ms.bnd 99 m = b := fun b hb => by
          show Ms.inb m.code 99 = b
          unfold Ms.inb; rw [Bool.eq_iff_iff, hb, decide_eq_true_eq]
        by_cases b1 : m.code < 0
        · go_wp2_with (go_at_call 47; refine hnum.mono ?_; rintro e w' ⟨rfl, rfl⟩)
          all_goals first
           | (go_ret; exact ⟨congrArg (fun b => Ending.returned (Value.bool b)) (HG.out.2 (hB false (by simp; omega))).symm, hb1⟩)
           | (go_roundg (gk - 1); (case measure => omega); (case rel => exact ⟨pos + 1, by omega, hit1, hk1, hb1, Lib.hid (HG.out.1 (hB true (by simp; omega)))⟩))
        · by_cases b2 : 99 < m.code
          · go_wp2_with (go_at_call 47; refine hnum.mono ?_; rintro e w' ⟨rfl, rfl⟩)
            all_goals first
             | (go_ret; exact ⟨congrArg (fun b => Ending.returned (Value.bool b)) (HG.out.2 (hB false (by simp; omega))).symm, hb1⟩)
             | (go_roundg (gk - 1); (case measure => omega); (case rel => exact ⟨pos + 1, by omega, hit1, hk1, hb1, Lib.hid (HG.out.1 (hB true (by simp; omega)))⟩))
          · go_wp2_with (go_at_call 47; refine hnum.mono ?_; rintro e w' ⟨rfl, rfl⟩)
            all_goals first
             | (go_roundg (gk - 1); (case measure => omega); (case rel => exact ⟨pos + 1, by omega, hit1, hk1, hb1, Lib.hid (HG.out.1 (hB true (by simp; omega)))⟩))
             | (go_ret; exact ⟨congrArg (fun b => Ending.returned (Value.bool b)) (HG.out.2 (hB false (by simp; omega))).symm, hb1⟩)
      · have hnum : Calls Tryz.prog 47 #[.pointer (some ⟨w.heap.size, 0, none⟩), .int .i32 100] w1 (fun e w2 => e = .returned (.tuple #[.pointer none, .int .i64 0, .bool false]) ∧ w2 = w1) := mnum_any w.heap.size 100 (by decide) _ rfl w1 hk1
        have hnx1 := hnx
        simp only [UInt8.toNat_ofNat, Nat.reducePow, Nat.reduceMod] at hnx1
        clear hnx
        go_wp2_with (go_at_call 47; refine hnum.mono ?_; rintro e w' ⟨rfl, rfl⟩)
        (go_roundg (gk - 1); (case measure => omega); (case rel => exact ⟨pos + 1, by omega, hit1, hk1, hb1, Lib.hid (HG.out.1 rfl)⟩))
      · have hnum : Calls Tryz.prog 47 #[.pointer (some ⟨w.heap.size, 0, none⟩), .int .i32 114] w1 (fun e w2 => e = .returned (.tuple #[.pointer none, .int .i64 0, .bool false]) ∧ w2 = w1) := mnum_any w.heap.size 114 (by decide) _ rfl w1 hk1
        have hnx1 := hnx
        simp only [UInt8.toNat_ofNat, Nat.reducePow, Nat.reduceMod] at hnx1
        clear hnx
        have x := hk1.cell 15
        simp [mCells] at x
        have hct := cont_bounds A2 c2 B0 m.rows hr w1 (ha3.kept (kept_below hb1))
        have hB : Ms.bnd 114 m = !(m.rows.any rowBad) := rowBad_all m.rows
        obtain ⟨q, hq⟩ : ∃ q, q = m.rows.any rowBad := ⟨_, rfl⟩
        rw [← hq] at hct hB
        have HB := Lib.hid hB
        clear hB hq
        have hbz := hb1.size
        have hkl := hk1.lt
        cases q with
        | true =>
          go_wp2_with (first
            | (go_at_call 47; refine hnum.mono ?_; rintro e w' ⟨rfl, rfl⟩)
            | (go_at_call 78; refine hct.mono ?_; rintro e w3 ⟨rfl, hb3⟩))
          go_ret
          exact ⟨congrArg (fun b => Ending.returned (Value.bool b)) (HG.out.2 HB.out).symm, hb1.trans (hb3.mono hbz)⟩
        | false =>
          go_wp2_with (first
            | (go_at_call 47; refine hnum.mono ?_; rintro e w' ⟨rfl, rfl⟩)
            | (go_at_call 78; refine hct.mono ?_; rintro e w3 ⟨rfl, hb3⟩))
          have hitl := (Array.getElem?_eq_some_iff.1 hit1).1
          go_roundg (gk - 1)
          case measure => omega
          case rel => exact ⟨pos + 1, by omega, (hb3.block _ hitl).trans hit1, hk1.stay hb3, hb1.trans (hb3.mono hbz), Lib.hid (HG.out.1 HB.out)⟩
set_option maxRecDepth 100000 in
set_option maxHeartbeats 8000000 in
theorem mlengths_any (B0 : Nat) (m : Ms.Msg) (v : Value) (ls : List UInt8) (hls : ∀ c ∈ ls, c ∈ Ms.alpha) (w : World) (h : MsgV w B0 m v) (hr : m.rows.length ≤ 1000000000) :
    Calls Tryz.prog 69 #[v, .string (strOf ls)] w fun e w' => e = .returned (.bool (ls.all fun c => Ms.len c m)) ∧ Below w.heap.size w w' := by
  obtain ⟨A, c, A2, c2, rfl, ha1, ha2, ha3, ha4⟩ := h
  obtain ⟨R, hR⟩ : ∃ R, R = ls.all fun c => Ms.len c m := ⟨_, rfl⟩
  rw [← hR]
  have HR := Lib.hid hR
  clear hR
  have HL := Lib.hid hls
  clear hls
  have hw1 : ∃ w1, w1 = (w.alloc (.cells (mCells m A c A2 c2) 27)) := ⟨_, rfl⟩
  have hk1 : Blk (w.alloc (.cells (mCells m A c A2 c2) 27)) w.heap.size 27 (mCells m A c A2 c2) := Blk.new w _ _
  have hb1 := alloc_b w (.cells (mCells m A c A2 c2) 27)
  have hz1 : (w.alloc (.cells (mCells m A c A2 c2) 27)).heap.size = w.heap.size + 1 := by simp
  simp only [mCells] at hk1 hb1 hz1 hw1 ⊢
  go_enter Tryz.func69, Tryz.ntmps69
  go_wp2_with fail
  obtain ⟨w1, hw1⟩ := hw1
  rw [← hw1] at hk1 hb1 hz1 ⊢
  try rw [hz1]
  clear hw1
  have hi0 : (w1.iter (strOf ls) 0).heap[w.heap.size + 1]? = some (.stringIter (strOf ls) 0) := by rw [← hz1]; exact World.iter_heap w1 (strOf ls) 0
  have hb0 : Below w1.heap.size w1 (w1.iter (strOf ls) 0) := alloc_b w1 _
  have hk0 := hk1.stay hb0
  have hbw0 := hb1.trans (hb0.mono hb1.size)
  generalize w1.iter (strOf ls) 0 = w2 at hi0 hk0 hbw0 ⊢
  clear hb0 hk1 hb1 hz1
  go_loopg [6] ls.length (fun r _ wr => ∃ (pos : Nat), r + pos = ls.length ∧ wr.heap[w.heap.size + 1]? = some (.stringIter (strOf ls) pos) ∧ Blk wr w.heap.size 27 (mCells m A c A2 c2) ∧ Below w.heap.size w wr ∧ Hid ((ls.take pos).all (fun c => Ms.len c m) = true))
  case atStart => exact ⟨0, by omega, hi0, hk0, hbw0, Lib.hid rfl⟩
  case round =>
    obtain ⟨pos, hpos, hit, hk, hbw, HS⟩ := hrel
    obtain ⟨wo, rfl⟩ : ∃ wo : World, wo = wr := ⟨_, rfl⟩
    clear hi0 hk0 hbw0
    by_cases hk0 : gk = 0
    · subst hk0
      have hnx : ∀ ty, (Instr.next (.pointer (some ⟨w.heap.size + 1, 0, none⟩)) true ty).run Tryz.prog wo = _ := fun ty => Lib.run_next_end_at wo (w.heap.size + 1) (strOf ls) pos ty hit (by rw [str_size]; omega)
      go_wp2_with fail
      go_ret
      have hE := HR.out
      have h2 := HS.out
      rw [List.take_of_length_le (by omega)] at h2
      rw [h2] at hE
      subst hE
      exact ⟨rfl, hbw⟩
    · obtain ⟨cc, hc⟩ : ∃ cc, ls[pos]? = some cc := ⟨_, List.getElem?_eq_getElem (by omega)⟩
      have hca := HL.out cc (List.mem_of_getElem? hc)
      have hnx := fun ty => next_letter (P := Tryz.prog) wo (w.heap.size + 1) ls pos ty cc hit hc (alpha_ascii cc hca)
      have hit1 := Lib.iterAt_heap wo (w.heap.size + 1) (strOf ls) pos (pos + 1) hit
      have hk1 := blk_iter (p' := pos + 1) hit hk
      have hb1 := below_iter (s := strOf ls) (p := pos + 1) hbw (Nat.le_succ w.heap.size)
      generalize wo.iterAt (w.heap.size + 1) (strOf ls) (pos + 1) = w1 at hnx hit1 hk1 hb1
      have HC := Lib.hid hc
      have hgo : Ms.len cc m = true → (ls.take (pos + 1)).all (fun c => Ms.len c m) = true := fun h => all_take hc HS.out h
      have hno : Ms.len cc m = false → R = false := fun h => HR.out.trans (all_not hc h)
      have HG := Lib.hid (And.intro hgo hno)
      clear hgo hno hc HS hit hk hbw
      simp only [Ms.alpha, List.mem_cons, List.not_mem_nil, or_false] at hca
      rcases hca with rfl | rfl | rfl | rfl | rfl | rfl | rfl | rfl | rfl | rfl | rfl | rfl | rfl | rfl | rfl
      · have hnx1 := hnx
        simp only [UInt8.toNat_ofNat, Nat.reducePow, Nat.reduceMod] at hnx1
        clear hnx
        go_wp2_with fail
        (go_roundg (gk - 1); (case measure => omega); (case rel => exact ⟨pos + 1, by omega, hit1, hk1, hb1, Lib.hid (HG.out.1 rfl)⟩))
      · have hnx1 := hnx
        simp only [UInt8.toNat_ofNat, Nat.reducePow, Nat.reduceMod] at hnx1
        clear hnx
        go_wp2_with fail
        (go_roundg (gk - 1); (case measure => omega); (case rel => exact ⟨pos + 1, by omega, hit1, hk1, hb1, Lib.hid (HG.out.1 rfl)⟩))
      · have hnx1 := hnx
        simp only [UInt8.toNat_ofNat, Nat.reducePow, Nat.reduceMod] at hnx1
        clear hnx
        go_wp2_with fail
        (go_roundg (gk - 1); (case measure => omega); (case rel => exact ⟨pos + 1, by omega, hit1, hk1, hb1, Lib.hid (HG.out.1 rfl)⟩))
      · have hnx1 := hnx
        simp only [UInt8.toNat_ofNat, Nat.reducePow, Nat.reduceMod] at hnx1
        clear hnx
        go_wp2_with fail
        (go_roundg (gk - 1); (case measure => omega); (case rel => exact ⟨pos + 1, by omega, hit1, hk1, hb1, Lib.hid (HG.out.1 rfl)⟩))
      · have hnx1 := hnx
        simp only [UInt8.toNat_ofNat, Nat.reducePow, Nat.reduceMod] at hnx1
        clear hnx
        have x := hk1.cell 4
        simp [mCells] at x
        have hB : Ms.len 80 m = decide (m.path.length ≤ 96) := rfl
        have hsz := str_size m.path
        by_cases b1 : 96 < m.path.length
        · have b1' : 96 < (m.path.length : Int) := by omega
          have b2' : 96 < ((strOf m.path).size : Int) ∨ True := .inr trivial
          rw [← hsz] at b1'
          go_wp2_with fail
          go_ret
          exact ⟨congrArg (fun b => Ending.returned (Value.bool b)) (HG.out.2 (hB.trans (decide_eq_false (by omega)))).symm, hb1⟩
        · have b1' : ¬ 96 < (m.path.length : Int) := by omega
          rw [← hsz] at b1'
          go_wp2_with fail
          go_roundg (gk - 1)
          case measure => omega
          case rel => exact ⟨pos + 1, by omega, hit1, hk1, hb1, Lib.hid (HG.out.1 (hB.trans (decide_eq_true (by omega))))⟩
      · have hnx1 := hnx
        simp only [UInt8.toNat_ofNat, Nat.reducePow, Nat.reduceMod] at hnx1
        clear hnx
        go_wp2_with fail
        (go_roundg (gk - 1); (case measure => omega); (case rel => exact ⟨pos + 1, by omega, hit1, hk1, hb1, Lib.hid (HG.out.1 rfl)⟩))
      · have hnx1 := hnx
        simp only [UInt8.toNat_ofNat, Nat.reducePow, Nat.reduceMod] at hnx1
        clear hnx
        go_wp2_with fail
        (go_roundg (gk - 1); (case measure => omega); (case rel => exact ⟨pos + 1, by omega, hit1, hk1, hb1, Lib.hid (HG.out.1 rfl)⟩))
      · have hnx1 := hnx
        simp only [UInt8.toNat_ofNat, Nat.reducePow, Nat.reduceMod] at hnx1
        clear hnx
        go_wp2_with fail
        (go_roundg (gk - 1); (case measure => omega); (case rel => exact ⟨pos + 1, by omega, hit1, hk1, hb1, Lib.hid (HG.out.1 rfl)⟩))
      · have hnx1 := hnx
        simp only [UInt8.toNat_ofNat, Nat.reducePow, Nat.reduceMod] at hnx1
        clear hnx
        go_wp2_with fail
        (go_roundg (gk - 1); (case measure => omega); (case rel => exact ⟨pos + 1, by omega, hit1, hk1, hb1, Lib.hid (HG.out.1 rfl)⟩))
      · have hnx1 := hnx
        simp only [UInt8.toNat_ofNat, Nat.reducePow, Nat.reduceMod] at hnx1
        clear hnx
        go_wp2_with fail
        (go_roundg (gk - 1); (case measure => omega); (case rel => exact ⟨pos + 1, by omega, hit1, hk1, hb1, Lib.hid (HG.out.1 rfl)⟩))
      · have hnx1 := hnx
        simp only [UInt8.toNat_ofNat, Nat.reducePow, Nat.reduceMod] at hnx1
        clear hnx
        go_wp2_with fail
        (go_roundg (gk - 1); (case measure => omega); (case rel => exact ⟨pos + 1, by omega, hit1, hk1, hb1, Lib.hid (HG.out.1 rfl)⟩))
      · have hnx1 := hnx
        simp only [UInt8.toNat_ofNat, Nat.reducePow, Nat.reduceMod] at hnx1
        clear hnx
        go_wp2_with fail
        (go_roundg (gk - 1); (case measure => omega); (case rel => exact ⟨pos + 1, by omega, hit1, hk1, hb1, Lib.hid (HG.out.1 rfl)⟩))
      · have hnx1 := hnx
        simp only [UInt8.toNat_ofNat, Nat.reducePow, Nat.reduceMod] at hnx1
        clear hnx
        go_wp2_with fail
        (go_roundg (gk - 1); (case measure => omega); (case rel => exact ⟨pos + 1, by omega, hit1, hk1, hb1, Lib.hid (HG.out.1 rfl)⟩))
      · have hnx1 := hnx
        simp only [UInt8.toNat_ofNat, Nat.reducePow, Nat.reduceMod] at hnx1
        clear hnx
        have x := hk1.cell 14
        simp [mCells] at x
        have hB : Ms.len 100 m = decide (m.data.length ≤ 200) := rfl
        have hsz := str_size m.path
        by_cases b1 : 200 < m.data.length
        · have b1' : 200 < (m.data.length : Int) := by omega
          have b2' : 200 < ((strOf m.path).size : Int) ∨ True := .inr trivial
          skip
          go_wp2_with fail
          go_ret
          exact ⟨congrArg (fun b => Ending.returned (Value.bool b)) (HG.out.2 (hB.trans (decide_eq_false (by omega)))).symm, hb1⟩
        · have b1' : ¬ 200 < (m.data.length : Int) := by omega
          skip
          go_wp2_with fail
          go_roundg (gk - 1)
          case measure => omega
          case rel => exact ⟨pos + 1, by omega, hit1, hk1, hb1, Lib.hid (HG.out.1 (hB.trans (decide_eq_true (by omega))))⟩
      · have hnx1 := hnx
        simp only [UInt8.toNat_ofNat, Nat.reducePow, Nat.reduceMod] at hnx1
        clear hnx
        have x := hk1.cell 15
        simp [mCells] at x
        have hct := cont_lengths A2 c2 B0 m.rows hr w1 (ha3.kept (kept_below hb1))
        have hB : Ms.len 114 m = (decide (m.rows.length ≤ 8) && !(m.rows.any rowLong)) := by rw [← rowLong_all]; rfl
        obtain ⟨q, hq⟩ : ∃ q, q = m.rows.any rowLong := ⟨_, rfl⟩
        rw [← hq] at hct hB
        have HB := Lib.hid hB
        clear hB hq
        have hbz := hb1.size
        have hkl := hk1.lt
        by_cases b1 : 8 < m.rows.length
        · have b1' : 8 < (m.rows.length : Int) := by omega
          go_wp2_with fail
          go_ret
          exact ⟨congrArg (fun b => Ending.returned (Value.bool b)) (HG.out.2 (by rw [HB.out, decide_eq_false (by omega)]; rfl)).symm, hb1⟩
        · have b1' : ¬ 8 < (m.rows.length : Int) := by omega
          cases q with
          | true =>
            go_wp2_with (go_at_call 78; refine hct.mono ?_; rintro e w3 ⟨rfl, hb3⟩)
            go_ret
            exact ⟨congrArg (fun b => Ending.returned (Value.bool b)) (HG.out.2 (by rw [HB.out, Bool.not_true, Bool.and_false])).symm, hb1.trans (hb3.mono hbz)⟩
          | false =>
            go_wp2_with (go_at_call 78; refine hct.mono ?_; rintro e w3 ⟨rfl, hb3⟩)
            have hitl := (Array.getElem?_eq_some_iff.1 hit1).1
            go_roundg (gk - 1)
            case measure => omega
            case rel => exact ⟨pos + 1, by omega, (hb3.block _ hitl).trans hit1, hk1.stay hb3, hb1.trans (hb3.mono hbz), Lib.hid (HG.out.1 (by rw [HB.out, decide_eq_true (by omega)]; rfl))⟩
end Go.Proofs.YthhhiiagppckhaaGreatDoor
end
