/- The walk of msg.read, each letter; conditions: none beyond its hypotheses. -/
import Derived.Test.YthhhiiagppckhaaGreatDoorMgMs4
set_option linter.unusedSimpArgs false
set_option linter.unusedVariables false
section
namespace Go.Proofs.YthhhiiagppckhaaGreatDoor
open Go.RowKit Go.Proofs.U
set_option linter.unusedVariables false

theorem str_size (l : List UInt8) : (strOf l).size = l.length := by unfold strOf; simp [ByteArray.size]
theorem str_at (l : List UInt8) (k : Nat) (c : UInt8) (h : l[k]? = some c) (hk : k < (strOf l).size) : (strOf l)[k]'hk = c := by
  have hk' : k < l.length := by rw [← str_size]; exact hk
  have e : (strOf l)[k]'hk = l[k]'hk' := by
    show (strOf l).data[k]'_ = _
    simp [strOf]
  rw [e]
  exact (List.getElem?_eq_some_iff.1 h).2
theorem next_letter {P : Program} (w : World) (k : Nat) (l : List UInt8) (pos : Nat) (ty : TypeId) (c : UInt8) (hk : w.heap[k]? = some (.stringIter (strOf l) pos)) (hc : l[pos]? = some c) (ha : c.toNat < 128) :
    (Instr.next (.pointer (some ⟨k, 0, none⟩)) true ty).run P w = .ok (.tuple #[.bool true, .int .i64 pos, .int .i32 (c.toNat : Int)]) (w.iterAt k (strOf l) (pos + 1)) := by
  have h : pos < (strOf l).size := by rw [str_size]; exact (List.getElem?_eq_some_iff.1 hc).1
  have e := str_at l pos c hc h
  rw [Lib.run_next_ascii_at w k (strOf l) pos ty hk h (by rw [e]; exact ha), e]
theorem alpha_ascii : ∀ c ∈ Ms.alpha, c.toNat < 128 := by decide
theorem two_iter {g gm k : Nat} {w0 w : World} {s : ByteArray} {p : Nat} (h : Two g gm w0 w) (hk : w0.heap.size ≤ k) : Two g gm w0 (w.iterAt k s p) :=
  ⟨h.os, h.tape, h.output, by simp [World.iterAt]; exact h.size, fun j hj h1 h2 => (Lib.iterAt_other w k j s p (by omega)).trans (h.block j hj h1 h2)⟩
theorem EyeW.iter {w : World} {T : TypeId} {g B0 k : Nat} {b : List UInt8} {f : Nat} {s : ByteArray} {p p' : Nat} (h : EyeW w T g B0 b f) (hk : w.heap[k]? = some (.stringIter s p)) (hB : B0 ≤ k) : EyeW (w.iterAt k s p') T g B0 b f := by
  obtain ⟨A, n, c, h1, h2, h3, h4⟩ := h
  have hne : g ≠ k := by rintro rfl; unfold Blk at h1; rw [hk] at h1; cases h1
  refine ⟨A, n, c, ?_, h2.keep fun q hq => ?_, h3, h4⟩
  · unfold Blk; rw [Lib.iterAt_other w k g s p' hne]; exact h1
  · exact World.cell?_of_block (Lib.iterAt_other w k q.block s p' (by omega))
theorem MsgW.iter {w : World} {gm B0 k : Nat} {m : Ms.Msg} {s : ByteArray} {p p' : Nat} (h : MsgW w B0 gm m) (hk : w.heap[k]? = some (.stringIter s p)) (hB : B0 ≤ k) : MsgW (w.iterAt k s p') B0 gm m := by
  obtain ⟨A, c, A2, c2, h1, h2, h3, h4, h5, h6⟩ := h
  have hne : gm ≠ k := by rintro rfl; unfold Blk at h1; rw [hk] at h1; cases h1
  have hK := kept_iter (B0 := 0) hk (Nat.zero_le _) p'
  refine ⟨A, c, A2, c2, ?_, h2.kept hK, h3, h4.kept hK, h5, h6⟩
  unfold Blk; rw [Lib.iterAt_other w k gm s p' hne]; exact h1
/-- a call on the eye leaves a message -/
theorem MsgW.eye {w w' : World} {T : TypeId} {gm g B0 : Nat} {m : Ms.Msg} {b : List UInt8} {f : Nat} (h : MsgW w B0 gm m) (he : EyeW w T g B0 b f) (hg : w.grownBy w' (some g)) (h1 : T ≠ 5) (h2 : T ≠ 52) (h3 : T ≠ 27) : MsgW w' B0 gm m := by
  obtain ⟨A, c, A2, c2, k1, k2, k3, k4, k5, k6⟩ := h
  have hK := kept_eye (B0 := 0) hg (Nat.zero_le _) he h1 h2
  obtain ⟨_, _, _, hk, _⟩ := he
  refine ⟨A, c, A2, c2, k1.grown hg (by intro e; injection e with e; subst e; exact hk.ne_ k1 h3 rfl), k2.kept hK, k3, k4.kept hK, k5, k6⟩
/-- a cell of a message is written: a number, a truth, a text -/
theorem MsgW.put {w w' : World} {T : TypeId} {gm g B0 : Nat} {m m' : Ms.Msg} {b : List UInt8} {f : Nat} (h : MsgW w B0 gm m) (he : EyeW w T g B0 b f) (hT : T ≠ 27) (i : Nat) (v : Value) (hw : w' = w.setCell ⟨gm, i, none⟩ v)
    (hd : m'.data = m.data) (hr : m'.rows = m.rows) (hc : ∀ A c A2 c2, (mCells m A c A2 c2).setIfInBounds i v = mCells m' A c A2 c2) : MsgW w' B0 gm m' ∧ EyeW w' T g B0 b f ∧ w.grownBy w' (some gm) := by
  subst hw
  obtain ⟨A, c, A2, c2, k1, k2, k3, k4, k5, k6⟩ := h
  have hg : w.grownBy (w.setCell ⟨gm, i, none⟩ v) (some gm) := only_setCell (World.grownBy.refl _ _) (.inl rfl) _
  have hK := kept_grown (B0 := 0) hg (Nat.zero_le _) k1 (by decide) (by decide)
  have hne : g ≠ gm := by
    obtain ⟨_, _, _, hk, _⟩ := he
    exact hk.ne_ k1 hT
  have k7 := k1.set_ i v
  rw [hc] at k7
  exact ⟨⟨A, c, A2, c2, k7, by rw [hd]; exact k2.kept hK, by rw [hd]; exact k3, by rw [hr]; exact k4.kept hK, by rw [hr]; exact k5, k6⟩, he.grown hg hne k6, hg⟩
theorem RwO.le {w : World} {base n c : Nat} {A : Option Addr} {l : List Ms.Rw} (h : RwO w base A n c l) : n ≤ c := by
  rcases h.1.2 with ⟨hv, h0⟩ | ⟨g, cap, cur, hv, _, _, hnc, _⟩
  · omega
  · injection hv with _ _ hcc; omega
theorem Ms.drow_left (b : List UInt8) (f : Nat) : (Ms.drow b f).2.1.length ≤ b.length := by
  unfold Ms.drow
  simp only
  have h1 := Gr.etext_left 96 b f
  have h2 := Gr.enum_len 2 (Gr.etext 96 b f).2.1 (Gr.etext 96 b f).2.2
  generalize Gr.enum 2 (Gr.etext 96 b f).2.1 (Gr.etext 96 b f).2.2 = r2 at h2 ⊢
  have h3 := Gr.enum_len Ms.MAX r2.2.1 r2.2.2
  generalize Gr.enum Ms.MAX r2.2.1 r2.2.2 = r3 at h3 ⊢
  have h4 := Gr.enum_len Ms.MAX r3.2.1 r3.2.2
  generalize Gr.enum Ms.MAX r3.2.1 r3.2.2 = r4 at h4 ⊢
  have h5 := Gr.enum_len 4096 r4.2.1 r4.2.2
  omega
theorem Ms.drows_left : ∀ (n : Nat) (b : List UInt8) (f : Nat), (Ms.drows n b f).2.1.length ≤ b.length
  | 0, b, f => Nat.le_refl _
  | n + 1, b, f => by
    unfold Ms.drows
    split
    · exact Nat.le_trans (Ms.drows_left n _ _) (Ms.drow_left b f)
    · exact Nat.le_refl _
theorem Ms.rowsP_left (b : List UInt8) (f : Nat) : (Ms.rowsP b f).2.1.length ≤ b.length := Nat.le_trans (Ms.drows_left _ _ _) (Gr.enum_len 8 b f)
theorem MsgW.putData {w : World} {T : TypeId} {gm g B0 c0 : Nat} {m : Ms.Msg} {b d : List UInt8} {f : Nat} {A0 : Option Addr} (h : MsgW w B0 gm m) (he : EyeW w T g B0 b f) (hT : T ≠ 27) (hd : Dat w 0 A0 d) (hc : d.length ≤ c0) :
    MsgW (w.setCell ⟨gm, 14, none⟩ (.slice A0 d.length c0)) B0 gm {m with data := d} ∧ EyeW (w.setCell ⟨gm, 14, none⟩ (.slice A0 d.length c0)) T g B0 b f ∧ w.grownBy (w.setCell ⟨gm, 14, none⟩ (.slice A0 d.length c0)) (some gm) := by
  obtain ⟨A, c, A2, c2, k1, k2, k3, k4, k5, k6⟩ := h
  have hg : w.grownBy (w.setCell ⟨gm, 14, none⟩ (.slice A0 d.length c0)) (some gm) := only_setCell (World.grownBy.refl _ _) (.inl rfl) _
  have hK := kept_grown (B0 := 0) hg (Nat.zero_le _) k1 (by decide) (by decide)
  have hne : g ≠ gm := by
    obtain ⟨_, _, _, hk, _⟩ := he
    exact hk.ne_ k1 hT
  exact ⟨⟨A0, c0, A2, c2, k1.set_ 14 _, hd.kept hK, hc, k4.kept hK, k5, k6⟩, he.grown hg hne k6, hg⟩
theorem MsgW.putRows {w : World} {T : TypeId} {gm g B0 c0 : Nat} {m : Ms.Msg} {b : List UInt8} {l : List Ms.Rw} {f : Nat} {A0 : Option Addr} (h : MsgW w B0 gm m) (he : EyeW w T g B0 b f) (hT : T ≠ 27) (hd : RwS w 0 A0 l) (hc : l.length ≤ c0) :
    MsgW (w.setCell ⟨gm, 15, none⟩ (.slice A0 l.length c0)) B0 gm {m with rows := l} ∧ EyeW (w.setCell ⟨gm, 15, none⟩ (.slice A0 l.length c0)) T g B0 b f ∧ w.grownBy (w.setCell ⟨gm, 15, none⟩ (.slice A0 l.length c0)) (some gm) := by
  obtain ⟨A, c, A2, c2, k1, k2, k3, k4, k5, k6⟩ := h
  have hg : w.grownBy (w.setCell ⟨gm, 15, none⟩ (.slice A0 l.length c0)) (some gm) := only_setCell (World.grownBy.refl _ _) (.inl rfl) _
  have hK := kept_grown (B0 := 0) hg (Nat.zero_le _) k1 (by decide) (by decide)
  have hne : g ≠ gm := by
    obtain ⟨_, _, _, hk, _⟩ := he
    exact hk.ne_ k1 hT
  exact ⟨⟨A, c, A0, c0, k1.set_ 15 _, k2.kept hK, k3, hd.kept hK, hc, k6⟩, he.grown hg hne k6, hg⟩
theorem MsgW.below {w w' : World} {gm B0 : Nat} {m : Ms.Msg} (h : MsgW w B0 gm m) (hb : Below w.heap.size w w') : MsgW w' B0 gm m := by
  obtain ⟨A, c, A2, c2, h1, h2, h3, h4, h5, h6⟩ := h
  exact ⟨A, c, A2, c2, h1.stay hb, h2.kept (kept_below hb), h3, h4.kept (kept_below hb), h5, h6⟩
theorem iter_other {w w' : World} {g k : Nat} {T : TypeId} {cs : Array Value} {s : ByteArray} {p : Nat} (hit : w.heap[k]? = some (.stringIter s p)) (hg : w.grownBy w' (some g)) (hk : Blk w g T cs) : w'.heap[k]? = some (.stringIter s p) :=
  (hg.block k (Array.getElem?_eq_some_iff.1 hit).1 fun e => by injection e with e; subst e; unfold Blk at hk; rw [hit] at hk; cases hk).trans hit
theorem EyeW.iter_stay {w w' : World} {T : TypeId} {g B0 k : Nat} {b : List UInt8} {f : Nat} {s : ByteArray} {p : Nat} (h : EyeW w T g B0 b f) (hit : w.heap[k]? = some (.stringIter s p)) (hg : w.grownBy w' (some g)) : w'.heap[k]? = some (.stringIter s p) := by
  obtain ⟨_, _, _, hk, _⟩ := h
  exact iter_other hit hg hk
theorem MsgW.iter_stay {w w' : World} {gm B0 k : Nat} {m : Ms.Msg} {s : ByteArray} {p : Nat} (h : MsgW w B0 gm m) (hit : w.heap[k]? = some (.stringIter s p)) (hg : w.grownBy w' (some gm)) : w'.heap[k]? = some (.stringIter s p) := by
  obtain ⟨_, _, _, _, hk, _⟩ := h
  exact iter_other hit hg hk
theorem mnum_w (gm : Nat) (c : UInt8) (hc : c ∈ Ms.alpha) {B0 : Nat} {m : Ms.Msg} (w : World) (h : MsgW w B0 gm m) :
    Calls Tryz.prog 47 #[.pointer (some ⟨gm, 0, none⟩), .int .i32 (c.toNat : Int)] w fun e w' => e = .returned (numRet gm (numAt c)) ∧ w' = w := by
  obtain ⟨_, _, _, _, hk, _⟩ := h
  exact mnum_any gm c hc _ rfl w hk
theorem mbig_w (gm : Nat) (c : UInt8) (hc : c ∈ Ms.alpha) {B0 : Nat} {m : Ms.Msg} (w : World) (h : MsgW w B0 gm m) :
    Calls Tryz.prog 48 #[.pointer (some ⟨gm, 0, none⟩), .int .i32 (c.toNat : Int)] w fun e w' => e = .returned (bigRet gm (bigAt c)) ∧ w' = w := by
  obtain ⟨_, _, _, _, hk, _⟩ := h
  exact mbig_any gm c hc _ rfl w hk
set_option maxRecDepth 100000 in
set_option maxHeartbeats 8000000 in
theorem mread_any (g gm B0 : Nat) (b : List UInt8) (f : Nat) (m : Ms.Msg) (ls : List UInt8) (hls : ∀ c ∈ ls, c ∈ Ms.alpha) (hm : b.length ≤ 140737488355328) (w : World) (h : EyeW w 117 g B0 b f) (hw : MsgW w B0 gm m) :
    Calls Tryz.prog 38 #[.pointer (some ⟨g, 0, none⟩), .pointer (some ⟨gm, 0, none⟩), .string (strOf ls)] w fun e w' => e = .returned (.tuple #[]) ∧ EyeW w' 117 g B0 (Ms.steps ls (m, b, f)).2.1 (Ms.steps ls (m, b, f)).2.2 ∧ MsgW w' B0 gm (Ms.steps ls (m, b, f)).1 ∧ Two g gm w w' := by
  have hBg : B0 ≤ w.heap.size := by have := h.lt; obtain ⟨_, _, _, _, _, _, h⟩ := h; omega
  obtain ⟨R, hR⟩ : ∃ R, R = Ms.steps ls (m, b, f) := ⟨_, rfl⟩
  rw [← hR]
  have HR := Lib.hid hR
  clear hR
  have HL := Lib.hid hls
  clear hls
  have hi0 : (w.iter (strOf ls) 0).heap[w.heap.size]? = some (.stringIter (strOf ls) 0) := World.iter_heap w (strOf ls) 0
  have hb0 : Below w.heap.size w (w.iter (strOf ls) 0) := alloc_b w _
  have HI := Lib.hid (And.intro hi0 hb0)
  clear hi0 hb0
  go_enter Tryz.func38, Tryz.ntmps38
  go_wp2_with fail
  go_loopg [7] ls.length (fun r _ wr => ∃ (pos : Nat) (m' : Ms.Msg) (b' : List UInt8) (f' : Nat), r + pos = ls.length ∧ b'.length ≤ 140737488355328 ∧ wr.heap[w.heap.size]? = some (.stringIter (strOf ls) pos) ∧ EyeW wr 117 g B0 b' f' ∧ MsgW wr B0 gm m' ∧ Two g gm w wr ∧ Hid (Ms.steps (ls.take pos) (m, b, f) = (m', b', f')))
  case atStart => exact ⟨0, m, b, f, by omega, hm, HI.out.1, h.below HI.out.2, hw.below HI.out.2, two_below HI.out.2, Lib.hid rfl⟩
  case round =>
    obtain ⟨pos, m1, b1, f1, hpos, hbl, hit, he, hmw, h2, HS⟩ := hrel
    obtain ⟨wo, rfl⟩ : ∃ wo : World, wo = wr := ⟨_, rfl⟩
    by_cases hk : gk = 0
    · subst hk
      have hnx : ∀ ty, (Instr.next (.pointer (some ⟨w.heap.size, 0, none⟩)) true ty).run Tryz.prog wo = _ := fun ty => Lib.run_next_end_at wo w.heap.size (strOf ls) pos ty hit (by rw [str_size]; omega)
      go_wp2_with fail
      go_end0
      have hE := HR.out
      rw [← List.take_of_length_le (l := ls) (i := pos) (by omega), HS.out] at hE
      subst hE
      exact ⟨rfl, he, hmw, h2⟩
    · obtain ⟨c, hc⟩ : ∃ c, ls[pos]? = some c := ⟨_, List.getElem?_eq_getElem (by omega)⟩
      have hca := HL.out c (List.mem_of_getElem? hc)
      have hnx := fun ty => next_letter (P := Tryz.prog) wo w.heap.size ls pos ty c hit hc (alpha_ascii c hca)
      have hit1 := Lib.iterAt_heap wo w.heap.size (strOf ls) pos (pos + 1) hit
      have he1 := he.iter (p' := pos + 1) hit hBg
      have hm1 := hmw.iter (p' := pos + 1) hit hBg
      have h21 := two_iter (s := strOf ls) (p := pos + 1) h2 (Nat.le_refl w.heap.size)
      generalize wo.iterAt w.heap.size (strOf ls) (pos + 1) = w1 at hnx hit1 he1 hm1 h21
      have hS1 := Ms.steps_take ls pos c (m, b, f) hc
      rw [HS.out] at hS1
      have HS1 := Lib.hid hS1
      clear hS1 HS hc he hmw h2 hit
      simp only [Ms.alpha, List.mem_cons, List.not_mem_nil, or_false] at hca
      rcases hca with rfl | rfl | rfl | rfl | rfl | rfl | rfl | rfl | rfl | rfl | rfl | rfl | rfl | rfl | rfl
      · have hnum : ∀ w' mm, MsgW w' B0 gm mm → Calls Tryz.prog 47 #[.pointer (some ⟨gm, 0, none⟩), .int .i32 112] w' (fun e w2 => e = .returned (.tuple #[.pointer (some ⟨gm, 3, none⟩), .int .i64 255, .bool true]) ∧ w2 = w') := fun w' mm h => mnum_w gm 112 (by decide) w' h
        have hbig : ∀ w' mm, MsgW w' B0 gm mm → Calls Tryz.prog 48 #[.pointer (some ⟨gm, 0, none⟩), .int .i32 112] w' (fun e w2 => e = .returned (.pointer none) ∧ w2 = w') := fun w' mm h => mbig_w gm 112 (by decide) w' h
        have hnx1 := hnx
        simp only [UInt8.toNat_ofNat, Nat.reducePow, Nat.reduceMod] at hnx1
        clear hnx
        have hM := eint_any g B0 b1 f1 255 (by decide) (by omega) w1 he1
        have hEl := Gr.enum_len 255 b1 f1
        obtain ⟨E, hE⟩ : ∃ E, E = Gr.enum 255 b1 f1 := ⟨_, rfl⟩
        have hS2 : Ms.steps (ls.take (pos + 1)) (m, b, f) = ({m1 with proto := E.1}, E.2) := by rw [HS1.out, hE]; rfl
        rw [← hE] at hM hEl
        obtain ⟨v, b2, f2⟩ := E
        have HS2 := Lib.hid hS2
        clear hS2 hE
        simp only at hEl
        go_wp2_with (first
          | (go_at_call 47; refine (hnum _ _ (by first | exact hm1 | exact hm3)).mono ?_; rintro e w' ⟨rfl, rfl⟩)
          | (go_at_call 48; refine (hbig _ _ (by first | exact hm1 | exact hm3)).mono ?_; rintro e w' ⟨rfl, rfl⟩)
          | (go_at_call 60
             refine hM.mono ?_
             rintro e w2 ⟨rfl, he2, hg2⟩
             simp only at he2 ⊢
             have hm2 := hm1.eye he1 hg2 (by decide) (by decide) (by decide)
             obtain ⟨A, c, A2, c2, hk, _⟩ := id hm2
             have x := hk.cell 3
             have y := hk.frozen 3
             simp [mCells] at x
             obtain ⟨hm3, he3, hg3⟩ := hm2.put (m' := {m1 with proto := (v : Int)}) he2 (by decide) 3 (.int .i64 (v : Int)) rfl rfl rfl (fun _ _ _ _ => rfl)
             have hit3 := hm2.iter_stay (he1.iter_stay hit1 hg2) hg3
             have h23 := (h21.trans (two_left hg2)).trans (two_right hg3)
             clear hk))
        go_roundg (gk - 1)
        case measure => omega
        case rel => exact ⟨pos + 1, _, b2, f2, by omega, by omega, hit3, he3, hm3, h23, HS2⟩
      · have hnum : ∀ w' mm, MsgW w' B0 gm mm → Calls Tryz.prog 47 #[.pointer (some ⟨gm, 0, none⟩), .int .i32 115] w' (fun e w2 => e = .returned (.tuple #[.pointer none, .int .i64 0, .bool false]) ∧ w2 = w') := fun w' mm h => mnum_w gm 115 (by decide) w' h
        have hbig : ∀ w' mm, MsgW w' B0 gm mm → Calls Tryz.prog 48 #[.pointer (some ⟨gm, 0, none⟩), .int .i32 115] w' (fun e w2 => e = .returned (.pointer (some ⟨gm, 1, none⟩)) ∧ w2 = w') := fun w' mm h => mbig_w gm 115 (by decide) w' h
        have hnx1 := hnx
        simp only [UInt8.toNat_ofNat, Nat.reducePow, Nat.reduceMod] at hnx1
        clear hnx
        have hM := enum_any g B0 b1 f1 18446744073709551615 (by decide) (by omega) w1 he1
        have hEl := Gr.enum_len 18446744073709551615 b1 f1
        obtain ⟨E, hE⟩ : ∃ E, E = Gr.enum 18446744073709551615 b1 f1 := ⟨_, rfl⟩
        have hS2 : Ms.steps (ls.take (pos + 1)) (m, b, f) = ({m1 with session := E.1}, E.2) := by rw [HS1.out, hE]; rfl
        rw [← hE] at hM hEl
        obtain ⟨v, b2, f2⟩ := E
        have HS2 := Lib.hid hS2
        clear hS2 hE
        simp only at hEl
        go_wp2_with (first
          | (go_at_call 47; refine (hnum _ _ (by first | exact hm1 | exact hm3)).mono ?_; rintro e w' ⟨rfl, rfl⟩)
          | (go_at_call 48; refine (hbig _ _ (by first | exact hm1 | exact hm3)).mono ?_; rintro e w' ⟨rfl, rfl⟩)
          | (go_at_call 35
             refine hM.mono ?_
             rintro e w2 ⟨rfl, he2, hg2⟩
             simp only at he2 ⊢
             have hm2 := hm1.eye he1 hg2 (by decide) (by decide) (by decide)
             obtain ⟨A, c, A2, c2, hk, _⟩ := id hm2
             have x := hk.cell 1
             have y := hk.frozen 1
             simp [mCells] at x
             obtain ⟨hm3, he3, hg3⟩ := hm2.put (m' := {m1 with session := v}) he2 (by decide) 1 (.int .u64 (v : Int)) rfl rfl rfl (fun _ _ _ _ => rfl)
             have hit3 := hm2.iter_stay (he1.iter_stay hit1 hg2) hg3
             have h23 := (h21.trans (two_left hg2)).trans (two_right hg3)
             clear hk))
        go_roundg (gk - 1)
        case measure => omega
        case rel => exact ⟨pos + 1, _, b2, f2, by omega, by omega, hit3, he3, hm3, h23, HS2⟩
      · have hnum : ∀ w' mm, MsgW w' B0 gm mm → Calls Tryz.prog 47 #[.pointer (some ⟨gm, 0, none⟩), .int .i32 110] w' (fun e w2 => e = .returned (.tuple #[.pointer none, .int .i64 0, .bool false]) ∧ w2 = w') := fun w' mm h => mnum_w gm 110 (by decide) w' h
        have hbig : ∀ w' mm, MsgW w' B0 gm mm → Calls Tryz.prog 48 #[.pointer (some ⟨gm, 0, none⟩), .int .i32 110] w' (fun e w2 => e = .returned (.pointer (some ⟨gm, 2, none⟩)) ∧ w2 = w') := fun w' mm h => mbig_w gm 110 (by decide) w' h
        have hnx1 := hnx
        simp only [UInt8.toNat_ofNat, Nat.reducePow, Nat.reduceMod] at hnx1
        clear hnx
        have hM := enum_any g B0 b1 f1 18446744073709551615 (by decide) (by omega) w1 he1
        have hEl := Gr.enum_len 18446744073709551615 b1 f1
        obtain ⟨E, hE⟩ : ∃ E, E = Gr.enum 18446744073709551615 b1 f1 := ⟨_, rfl⟩
        have hS2 : Ms.steps (ls.take (pos + 1)) (m, b, f) = ({m1 with n := E.1}, E.2) := by rw [HS1.out, hE]; rfl
        rw [← hE] at hM hEl
        obtain ⟨v, b2, f2⟩ := E
        have HS2 := Lib.hid hS2
        clear hS2 hE
        simp only at hEl
        go_wp2_with (first
          | (go_at_call 47; refine (hnum _ _ (by first | exact hm1 | exact hm3)).mono ?_; rintro e w' ⟨rfl, rfl⟩)
          | (go_at_call 48; refine (hbig _ _ (by first | exact hm1 | exact hm3)).mono ?_; rintro e w' ⟨rfl, rfl⟩)
          | (go_at_call 35
             refine hM.mono ?_
             rintro e w2 ⟨rfl, he2, hg2⟩
             simp only at he2 ⊢
             have hm2 := hm1.eye he1 hg2 (by decide) (by decide) (by decide)
             obtain ⟨A, c, A2, c2, hk, _⟩ := id hm2
             have x := hk.cell 2
             have y := hk.frozen 2
             simp [mCells] at x
             obtain ⟨hm3, he3, hg3⟩ := hm2.put (m' := {m1 with n := v}) he2 (by decide) 2 (.int .u64 (v : Int)) rfl rfl rfl (fun _ _ _ _ => rfl)
             have hit3 := hm2.iter_stay (he1.iter_stay hit1 hg2) hg3
             have h23 := (h21.trans (two_left hg2)).trans (two_right hg3)
             clear hk))
        go_roundg (gk - 1)
        case measure => omega
        case rel => exact ⟨pos + 1, _, b2, f2, by omega, by omega, hit3, he3, hm3, h23, HS2⟩
      · have hnum : ∀ w' mm, MsgW w' B0 gm mm → Calls Tryz.prog 47 #[.pointer (some ⟨gm, 0, none⟩), .int .i32 102] w' (fun e w2 => e = .returned (.tuple #[.pointer none, .int .i64 0, .bool false]) ∧ w2 = w') := fun w' mm h => mnum_w gm 102 (by decide) w' h
        have hbig : ∀ w' mm, MsgW w' B0 gm mm → Calls Tryz.prog 48 #[.pointer (some ⟨gm, 0, none⟩), .int .i32 102] w' (fun e w2 => e = .returned (.pointer none) ∧ w2 = w') := fun w' mm h => mbig_w gm 102 (by decide) w' h
        have hnx1 := hnx
        simp only [UInt8.toNat_ofNat, Nat.reducePow, Nat.reduceMod] at hnx1
        clear hnx
        have hM := etruth_any g B0 b1 f1 (by omega) w1 he1
        have hEl := Gr.enum_len 1 b1 f1
        obtain ⟨E, hE⟩ : ∃ E, E = Gr.enum 1 b1 f1 := ⟨_, rfl⟩
        have hS2 : Ms.steps (ls.take (pos + 1)) (m, b, f) = ({m1 with flag := decide (E.1 = 1)}, E.2) := by rw [HS1.out, hE]; rfl
        rw [← hE] at hM hEl
        obtain ⟨v, b2, f2⟩ := E
        have HS2 := Lib.hid hS2
        clear hS2 hE
        simp only at hEl
        go_wp2_with (first
          | (go_at_call 47; refine (hnum _ _ (by first | exact hm1 | exact hm3)).mono ?_; rintro e w' ⟨rfl, rfl⟩)
          | (go_at_call 48; refine (hbig _ _ (by first | exact hm1 | exact hm3)).mono ?_; rintro e w' ⟨rfl, rfl⟩)
          | (go_at_call 61
             refine hM.mono ?_
             rintro e w2 ⟨rfl, he2, hg2⟩
             simp only at he2 ⊢
             have hm2 := hm1.eye he1 hg2 (by decide) (by decide) (by decide)
             obtain ⟨A, c, A2, c2, hk, _⟩ := id hm2
             have x := hk.cell 13
             have y := hk.frozen 13
             simp [mCells] at x
             obtain ⟨hm3, he3, hg3⟩ := hm2.put (m' := {m1 with flag := decide (v = 1)}) he2 (by decide) 13 (.bool (decide (v = 1))) rfl rfl rfl (fun _ _ _ _ => rfl)
             have hit3 := hm2.iter_stay (he1.iter_stay hit1 hg2) hg3
             have h23 := (h21.trans (two_left hg2)).trans (two_right hg3)
             clear hk))
        go_roundg (gk - 1)
        case measure => omega
        case rel => exact ⟨pos + 1, _, b2, f2, by omega, by omega, hit3, he3, hm3, h23, HS2⟩
      · have hnum : ∀ w' mm, MsgW w' B0 gm mm → Calls Tryz.prog 47 #[.pointer (some ⟨gm, 0, none⟩), .int .i32 80] w' (fun e w2 => e = .returned (.tuple #[.pointer none, .int .i64 0, .bool false]) ∧ w2 = w') := fun w' mm h => mnum_w gm 80 (by decide) w' h
        have hbig : ∀ w' mm, MsgW w' B0 gm mm → Calls Tryz.prog 48 #[.pointer (some ⟨gm, 0, none⟩), .int .i32 80] w' (fun e w2 => e = .returned (.pointer none) ∧ w2 = w') := fun w' mm h => mbig_w gm 80 (by decide) w' h
        have hnx1 := hnx
        simp only [UInt8.toNat_ofNat, Nat.reducePow, Nat.reduceMod] at hnx1
        clear hnx
        have hM := etext_any g B0 b1 f1 96 (by decide) (by omega) w1 he1
        have hEl := Gr.etext_left 96 b1 f1
        obtain ⟨E, hE⟩ : ∃ E, E = Gr.etext 96 b1 f1 := ⟨_, rfl⟩
        have hS2 : Ms.steps (ls.take (pos + 1)) (m, b, f) = ({m1 with path := E.1}, E.2) := by rw [HS1.out, hE]; rfl
        rw [← hE] at hM hEl
        obtain ⟨d, b2, f2⟩ := E
        have HS2 := Lib.hid hS2
        clear hS2 hE
        simp only at hEl
        go_wp2_with (first
          | (go_at_call 47; refine (hnum _ _ (by first | exact hm1 | exact hm3)).mono ?_; rintro e w' ⟨rfl, rfl⟩)
          | (go_at_call 48; refine (hbig _ _ (by first | exact hm1 | exact hm3)).mono ?_; rintro e w' ⟨rfl, rfl⟩)
          | (go_at_call 62
             refine hM.mono ?_
             rintro e w2 ⟨A3, c3, rfl, ho, he2, hg2⟩
             simp only at he2 ho ⊢
             have hd : Dat w2 0 A3 d := Dat.own ho
             have kc := str_of hd c3
             have hm2 := hm1.eye he1 hg2 (by decide) (by decide) (by decide)
             obtain ⟨A, c, A2, c2, hk, _⟩ := id hm2
             have x := hk.cell 4
             have y := hk.frozen 4
             simp [mCells] at x
             obtain ⟨hm3, he3, hg3⟩ := hm2.put (m' := {m1 with path := d}) he2 (by decide) 4 (.string (strOf d)) rfl rfl rfl (fun _ _ _ _ => rfl)
             have hit3 := hm2.iter_stay (he1.iter_stay hit1 hg2) hg3
             have h23 := (h21.trans (two_left hg2)).trans (two_right hg3)
             clear hk))
        go_roundg (gk - 1)
        case measure => omega
        case rel => exact ⟨pos + 1, _, b2, f2, by omega, by omega, hit3, he3, hm3, h23, HS2⟩
      · have hnum : ∀ w' mm, MsgW w' B0 gm mm → Calls Tryz.prog 47 #[.pointer (some ⟨gm, 0, none⟩), .int .i32 119] w' (fun e w2 => e = .returned (.tuple #[.pointer (some ⟨gm, 5, none⟩), .int .i64 2, .bool true]) ∧ w2 = w') := fun w' mm h => mnum_w gm 119 (by decide) w' h
        have hbig : ∀ w' mm, MsgW w' B0 gm mm → Calls Tryz.prog 48 #[.pointer (some ⟨gm, 0, none⟩), .int .i32 119] w' (fun e w2 => e = .returned (.pointer none) ∧ w2 = w') := fun w' mm h => mbig_w gm 119 (by decide) w' h
        have hnx1 := hnx
        simp only [UInt8.toNat_ofNat, Nat.reducePow, Nat.reduceMod] at hnx1
        clear hnx
        have hM := eint_any g B0 b1 f1 2 (by decide) (by omega) w1 he1
        have hEl := Gr.enum_len 2 b1 f1
        obtain ⟨E, hE⟩ : ∃ E, E = Gr.enum 2 b1 f1 := ⟨_, rfl⟩
        have hS2 : Ms.steps (ls.take (pos + 1)) (m, b, f) = ({m1 with what := E.1}, E.2) := by rw [HS1.out, hE]; rfl
        rw [← hE] at hM hEl
        obtain ⟨v, b2, f2⟩ := E
        have HS2 := Lib.hid hS2
        clear hS2 hE
        simp only at hEl
        go_wp2_with (first
          | (go_at_call 47; refine (hnum _ _ (by first | exact hm1 | exact hm3)).mono ?_; rintro e w' ⟨rfl, rfl⟩)
          | (go_at_call 48; refine (hbig _ _ (by first | exact hm1 | exact hm3)).mono ?_; rintro e w' ⟨rfl, rfl⟩)
          | (go_at_call 60
             refine hM.mono ?_
             rintro e w2 ⟨rfl, he2, hg2⟩
             simp only at he2 ⊢
             have hm2 := hm1.eye he1 hg2 (by decide) (by decide) (by decide)
             obtain ⟨A, c, A2, c2, hk, _⟩ := id hm2
             have x := hk.cell 5
             have y := hk.frozen 5
             simp [mCells] at x
             obtain ⟨hm3, he3, hg3⟩ := hm2.put (m' := {m1 with what := (v : Int)}) he2 (by decide) 5 (.int .i64 (v : Int)) rfl rfl rfl (fun _ _ _ _ => rfl)
             have hit3 := hm2.iter_stay (he1.iter_stay hit1 hg2) hg3
             have h23 := (h21.trans (two_left hg2)).trans (two_right hg3)
             clear hk))
        go_roundg (gk - 1)
        case measure => omega
        case rel => exact ⟨pos + 1, _, b2, f2, by omega, by omega, hit3, he3, hm3, h23, HS2⟩
      · have hnum : ∀ w' mm, MsgW w' B0 gm mm → Calls Tryz.prog 47 #[.pointer (some ⟨gm, 0, none⟩), .int .i32 118] w' (fun e w2 => e = .returned (.tuple #[.pointer none, .int .i64 0, .bool false]) ∧ w2 = w') := fun w' mm h => mnum_w gm 118 (by decide) w' h
        have hbig : ∀ w' mm, MsgW w' B0 gm mm → Calls Tryz.prog 48 #[.pointer (some ⟨gm, 0, none⟩), .int .i32 118] w' (fun e w2 => e = .returned (.pointer (some ⟨gm, 6, none⟩)) ∧ w2 = w') := fun w' mm h => mbig_w gm 118 (by decide) w' h
        have hnx1 := hnx
        simp only [UInt8.toNat_ofNat, Nat.reducePow, Nat.reduceMod] at hnx1
        clear hnx
        have hM := enum_any g B0 b1 f1 18446744073709551615 (by decide) (by omega) w1 he1
        have hEl := Gr.enum_len 18446744073709551615 b1 f1
        obtain ⟨E, hE⟩ : ∃ E, E = Gr.enum 18446744073709551615 b1 f1 := ⟨_, rfl⟩
        have hS2 : Ms.steps (ls.take (pos + 1)) (m, b, f) = ({m1 with version := E.1}, E.2) := by rw [HS1.out, hE]; rfl
        rw [← hE] at hM hEl
        obtain ⟨v, b2, f2⟩ := E
        have HS2 := Lib.hid hS2
        clear hS2 hE
        simp only at hEl
        go_wp2_with (first
          | (go_at_call 47; refine (hnum _ _ (by first | exact hm1 | exact hm3)).mono ?_; rintro e w' ⟨rfl, rfl⟩)
          | (go_at_call 48; refine (hbig _ _ (by first | exact hm1 | exact hm3)).mono ?_; rintro e w' ⟨rfl, rfl⟩)
          | (go_at_call 35
             refine hM.mono ?_
             rintro e w2 ⟨rfl, he2, hg2⟩
             simp only at he2 ⊢
             have hm2 := hm1.eye he1 hg2 (by decide) (by decide) (by decide)
             obtain ⟨A, c, A2, c2, hk, _⟩ := id hm2
             have x := hk.cell 6
             have y := hk.frozen 6
             simp [mCells] at x
             obtain ⟨hm3, he3, hg3⟩ := hm2.put (m' := {m1 with version := v}) he2 (by decide) 6 (.int .u64 (v : Int)) rfl rfl rfl (fun _ _ _ _ => rfl)
             have hit3 := hm2.iter_stay (he1.iter_stay hit1 hg2) hg3
             have h23 := (h21.trans (two_left hg2)).trans (two_right hg3)
             clear hk))
        go_roundg (gk - 1)
        case measure => omega
        case rel => exact ⟨pos + 1, _, b2, f2, by omega, by omega, hit3, he3, hm3, h23, HS2⟩
      · have hnum : ∀ w' mm, MsgW w' B0 gm mm → Calls Tryz.prog 47 #[.pointer (some ⟨gm, 0, none⟩), .int .i32 97] w' (fun e w2 => e = .returned (.tuple #[.pointer none, .int .i64 0, .bool false]) ∧ w2 = w') := fun w' mm h => mnum_w gm 97 (by decide) w' h
        have hbig : ∀ w' mm, MsgW w' B0 gm mm → Calls Tryz.prog 48 #[.pointer (some ⟨gm, 0, none⟩), .int .i32 97] w' (fun e w2 => e = .returned (.pointer (some ⟨gm, 7, none⟩)) ∧ w2 = w') := fun w' mm h => mbig_w gm 97 (by decide) w' h
        have hnx1 := hnx
        simp only [UInt8.toNat_ofNat, Nat.reducePow, Nat.reduceMod] at hnx1
        clear hnx
        have hM := enum_any g B0 b1 f1 18446744073709551615 (by decide) (by omega) w1 he1
        have hEl := Gr.enum_len 18446744073709551615 b1 f1
        obtain ⟨E, hE⟩ : ∃ E, E = Gr.enum 18446744073709551615 b1 f1 := ⟨_, rfl⟩
        have hS2 : Ms.steps (ls.take (pos + 1)) (m, b, f) = ({m1 with attempt := E.1}, E.2) := by rw [HS1.out, hE]; rfl
        rw [← hE] at hM hEl
        obtain ⟨v, b2, f2⟩ := E
        have HS2 := Lib.hid hS2
        clear hS2 hE
        simp only at hEl
        go_wp2_with (first
          | (go_at_call 47; refine (hnum _ _ (by first | exact hm1 | exact hm3)).mono ?_; rintro e w' ⟨rfl, rfl⟩)
          | (go_at_call 48; refine (hbig _ _ (by first | exact hm1 | exact hm3)).mono ?_; rintro e w' ⟨rfl, rfl⟩)
          | (go_at_call 35
             refine hM.mono ?_
             rintro e w2 ⟨rfl, he2, hg2⟩
             simp only at he2 ⊢
             have hm2 := hm1.eye he1 hg2 (by decide) (by decide) (by decide)
             obtain ⟨A, c, A2, c2, hk, _⟩ := id hm2
             have x := hk.cell 7
             have y := hk.frozen 7
             simp [mCells] at x
             obtain ⟨hm3, he3, hg3⟩ := hm2.put (m' := {m1 with attempt := v}) he2 (by decide) 7 (.int .u64 (v : Int)) rfl rfl rfl (fun _ _ _ _ => rfl)
             have hit3 := hm2.iter_stay (he1.iter_stay hit1 hg2) hg3
             have h23 := (h21.trans (two_left hg2)).trans (two_right hg3)
             clear hk))
        go_roundg (gk - 1)
        case measure => omega
        case rel => exact ⟨pos + 1, _, b2, f2, by omega, by omega, hit3, he3, hm3, h23, HS2⟩
      · have hnum : ∀ w' mm, MsgW w' B0 gm mm → Calls Tryz.prog 47 #[.pointer (some ⟨gm, 0, none⟩), .int .i32 116] w' (fun e w2 => e = .returned (.tuple #[.pointer none, .int .i64 0, .bool false]) ∧ w2 = w') := fun w' mm h => mnum_w gm 116 (by decide) w' h
        have hbig : ∀ w' mm, MsgW w' B0 gm mm → Calls Tryz.prog 48 #[.pointer (some ⟨gm, 0, none⟩), .int .i32 116] w' (fun e w2 => e = .returned (.pointer (some ⟨gm, 8, none⟩)) ∧ w2 = w') := fun w' mm h => mbig_w gm 116 (by decide) w' h
        have hnx1 := hnx
        simp only [UInt8.toNat_ofNat, Nat.reducePow, Nat.reduceMod] at hnx1
        clear hnx
        have hM := enum_any g B0 b1 f1 18446744073709551615 (by decide) (by omega) w1 he1
        have hEl := Gr.enum_len 18446744073709551615 b1 f1
        obtain ⟨E, hE⟩ : ∃ E, E = Gr.enum 18446744073709551615 b1 f1 := ⟨_, rfl⟩
        have hS2 : Ms.steps (ls.take (pos + 1)) (m, b, f) = ({m1 with stamp := E.1}, E.2) := by rw [HS1.out, hE]; rfl
        rw [← hE] at hM hEl
        obtain ⟨v, b2, f2⟩ := E
        have HS2 := Lib.hid hS2
        clear hS2 hE
        simp only at hEl
        go_wp2_with (first
          | (go_at_call 47; refine (hnum _ _ (by first | exact hm1 | exact hm3)).mono ?_; rintro e w' ⟨rfl, rfl⟩)
          | (go_at_call 48; refine (hbig _ _ (by first | exact hm1 | exact hm3)).mono ?_; rintro e w' ⟨rfl, rfl⟩)
          | (go_at_call 35
             refine hM.mono ?_
             rintro e w2 ⟨rfl, he2, hg2⟩
             simp only at he2 ⊢
             have hm2 := hm1.eye he1 hg2 (by decide) (by decide) (by decide)
             obtain ⟨A, c, A2, c2, hk, _⟩ := id hm2
             have x := hk.cell 8
             have y := hk.frozen 8
             simp [mCells] at x
             obtain ⟨hm3, he3, hg3⟩ := hm2.put (m' := {m1 with stamp := v}) he2 (by decide) 8 (.int .u64 (v : Int)) rfl rfl rfl (fun _ _ _ _ => rfl)
             have hit3 := hm2.iter_stay (he1.iter_stay hit1 hg2) hg3
             have h23 := (h21.trans (two_left hg2)).trans (two_right hg3)
             clear hk))
        go_roundg (gk - 1)
        case measure => omega
        case rel => exact ⟨pos + 1, _, b2, f2, by omega, by omega, hit3, he3, hm3, h23, HS2⟩
      · have hnum : ∀ w' mm, MsgW w' B0 gm mm → Calls Tryz.prog 47 #[.pointer (some ⟨gm, 0, none⟩), .int .i32 111] w' (fun e w2 => e = .returned (.tuple #[.pointer (some ⟨gm, 9, none⟩), .int .i64 8300, .bool true]) ∧ w2 = w') := fun w' mm h => mnum_w gm 111 (by decide) w' h
        have hbig : ∀ w' mm, MsgW w' B0 gm mm → Calls Tryz.prog 48 #[.pointer (some ⟨gm, 0, none⟩), .int .i32 111] w' (fun e w2 => e = .returned (.pointer none) ∧ w2 = w') := fun w' mm h => mbig_w gm 111 (by decide) w' h
        have hnx1 := hnx
        simp only [UInt8.toNat_ofNat, Nat.reducePow, Nat.reduceMod] at hnx1
        clear hnx
        have hM := eint_any g B0 b1 f1 8300 (by decide) (by omega) w1 he1
        have hEl := Gr.enum_len 8300 b1 f1
        obtain ⟨E, hE⟩ : ∃ E, E = Gr.enum 8300 b1 f1 := ⟨_, rfl⟩
        have hS2 : Ms.steps (ls.take (pos + 1)) (m, b, f) = ({m1 with offset := E.1}, E.2) := by rw [HS1.out, hE]; rfl
        rw [← hE] at hM hEl
        obtain ⟨v, b2, f2⟩ := E
        have HS2 := Lib.hid hS2
        clear hS2 hE
        simp only at hEl
        go_wp2_with (first
          | (go_at_call 47; refine (hnum _ _ (by first | exact hm1 | exact hm3)).mono ?_; rintro e w' ⟨rfl, rfl⟩)
          | (go_at_call 48; refine (hbig _ _ (by first | exact hm1 | exact hm3)).mono ?_; rintro e w' ⟨rfl, rfl⟩)
          | (go_at_call 60
             refine hM.mono ?_
             rintro e w2 ⟨rfl, he2, hg2⟩
             simp only at he2 ⊢
             have hm2 := hm1.eye he1 hg2 (by decide) (by decide) (by decide)
             obtain ⟨A, c, A2, c2, hk, _⟩ := id hm2
             have x := hk.cell 9
             have y := hk.frozen 9
             simp [mCells] at x
             obtain ⟨hm3, he3, hg3⟩ := hm2.put (m' := {m1 with offset := (v : Int)}) he2 (by decide) 9 (.int .i64 (v : Int)) rfl rfl rfl (fun _ _ _ _ => rfl)
             have hit3 := hm2.iter_stay (he1.iter_stay hit1 hg2) hg3
             have h23 := (h21.trans (two_left hg2)).trans (two_right hg3)
             clear hk))
        go_roundg (gk - 1)
        case measure => omega
        case rel => exact ⟨pos + 1, _, b2, f2, by omega, by omega, hit3, he3, hm3, h23, HS2⟩
      · have hnum : ∀ w' mm, MsgW w' B0 gm mm → Calls Tryz.prog 47 #[.pointer (some ⟨gm, 0, none⟩), .int .i32 84] w' (fun e w2 => e = .returned (.tuple #[.pointer (some ⟨gm, 10, none⟩), .int .i64 8300, .bool true]) ∧ w2 = w') := fun w' mm h => mnum_w gm 84 (by decide) w' h
        have hbig : ∀ w' mm, MsgW w' B0 gm mm → Calls Tryz.prog 48 #[.pointer (some ⟨gm, 0, none⟩), .int .i32 84] w' (fun e w2 => e = .returned (.pointer none) ∧ w2 = w') := fun w' mm h => mbig_w gm 84 (by decide) w' h
        have hnx1 := hnx
        simp only [UInt8.toNat_ofNat, Nat.reducePow, Nat.reduceMod] at hnx1
        clear hnx
        have hM := eint_any g B0 b1 f1 8300 (by decide) (by omega) w1 he1
        have hEl := Gr.enum_len 8300 b1 f1
        obtain ⟨E, hE⟩ : ∃ E, E = Gr.enum 8300 b1 f1 := ⟨_, rfl⟩
        have hS2 : Ms.steps (ls.take (pos + 1)) (m, b, f) = ({m1 with total := E.1}, E.2) := by rw [HS1.out, hE]; rfl
        rw [← hE] at hM hEl
        obtain ⟨v, b2, f2⟩ := E
        have HS2 := Lib.hid hS2
        clear hS2 hE
        simp only at hEl
        go_wp2_with (first
          | (go_at_call 47; refine (hnum _ _ (by first | exact hm1 | exact hm3)).mono ?_; rintro e w' ⟨rfl, rfl⟩)
          | (go_at_call 48; refine (hbig _ _ (by first | exact hm1 | exact hm3)).mono ?_; rintro e w' ⟨rfl, rfl⟩)
          | (go_at_call 60
             refine hM.mono ?_
             rintro e w2 ⟨rfl, he2, hg2⟩
             simp only at he2 ⊢
             have hm2 := hm1.eye he1 hg2 (by decide) (by decide) (by decide)
             obtain ⟨A, c, A2, c2, hk, _⟩ := id hm2
             have x := hk.cell 10
             have y := hk.frozen 10
             simp [mCells] at x
             obtain ⟨hm3, he3, hg3⟩ := hm2.put (m' := {m1 with total := (v : Int)}) he2 (by decide) 10 (.int .i64 (v : Int)) rfl rfl rfl (fun _ _ _ _ => rfl)
             have hit3 := hm2.iter_stay (he1.iter_stay hit1 hg2) hg3
             have h23 := (h21.trans (two_left hg2)).trans (two_right hg3)
             clear hk))
        go_roundg (gk - 1)
        case measure => omega
        case rel => exact ⟨pos + 1, _, b2, f2, by omega, by omega, hit3, he3, hm3, h23, HS2⟩
      · have hnum : ∀ w' mm, MsgW w' B0 gm mm → Calls Tryz.prog 47 #[.pointer (some ⟨gm, 0, none⟩), .int .i32 122] w' (fun e w2 => e = .returned (.tuple #[.pointer (some ⟨gm, 11, none⟩), .int .i64 4096, .bool true]) ∧ w2 = w') := fun w' mm h => mnum_w gm 122 (by decide) w' h
        have hbig : ∀ w' mm, MsgW w' B0 gm mm → Calls Tryz.prog 48 #[.pointer (some ⟨gm, 0, none⟩), .int .i32 122] w' (fun e w2 => e = .returned (.pointer none) ∧ w2 = w') := fun w' mm h => mbig_w gm 122 (by decide) w' h
        have hnx1 := hnx
        simp only [UInt8.toNat_ofNat, Nat.reducePow, Nat.reduceMod] at hnx1
        clear hnx
        have hM := eint_any g B0 b1 f1 4096 (by decide) (by omega) w1 he1
        have hEl := Gr.enum_len 4096 b1 f1
        obtain ⟨E, hE⟩ : ∃ E, E = Gr.enum 4096 b1 f1 := ⟨_, rfl⟩
        have hS2 : Ms.steps (ls.take (pos + 1)) (m, b, f) = ({m1 with size := E.1}, E.2) := by rw [HS1.out, hE]; rfl
        rw [← hE] at hM hEl
        obtain ⟨v, b2, f2⟩ := E
        have HS2 := Lib.hid hS2
        clear hS2 hE
        simp only at hEl
        go_wp2_with (first
          | (go_at_call 47; refine (hnum _ _ (by first | exact hm1 | exact hm3)).mono ?_; rintro e w' ⟨rfl, rfl⟩)
          | (go_at_call 48; refine (hbig _ _ (by first | exact hm1 | exact hm3)).mono ?_; rintro e w' ⟨rfl, rfl⟩)
          | (go_at_call 60
             refine hM.mono ?_
             rintro e w2 ⟨rfl, he2, hg2⟩
             simp only at he2 ⊢
             have hm2 := hm1.eye he1 hg2 (by decide) (by decide) (by decide)
             obtain ⟨A, c, A2, c2, hk, _⟩ := id hm2
             have x := hk.cell 11
             have y := hk.frozen 11
             simp [mCells] at x
             obtain ⟨hm3, he3, hg3⟩ := hm2.put (m' := {m1 with size := (v : Int)}) he2 (by decide) 11 (.int .i64 (v : Int)) rfl rfl rfl (fun _ _ _ _ => rfl)
             have hit3 := hm2.iter_stay (he1.iter_stay hit1 hg2) hg3
             have h23 := (h21.trans (two_left hg2)).trans (two_right hg3)
             clear hk))
        go_roundg (gk - 1)
        case measure => omega
        case rel => exact ⟨pos + 1, _, b2, f2, by omega, by omega, hit3, he3, hm3, h23, HS2⟩
      · have hnum : ∀ w' mm, MsgW w' B0 gm mm → Calls Tryz.prog 47 #[.pointer (some ⟨gm, 0, none⟩), .int .i32 99] w' (fun e w2 => e = .returned (.tuple #[.pointer none, .int .i64 0, .bool false]) ∧ w2 = w') := fun w' mm h => mnum_w gm 99 (by decide) w' h
        have hbig : ∀ w' mm, MsgW w' B0 gm mm → Calls Tryz.prog 48 #[.pointer (some ⟨gm, 0, none⟩), .int .i32 99] w' (fun e w2 => e = .returned (.pointer none) ∧ w2 = w') := fun w' mm h => mbig_w gm 99 (by decide) w' h
        have hnx1 := hnx
        simp only [UInt8.toNat_ofNat, Nat.reducePow, Nat.reduceMod] at hnx1
        clear hnx
        have hM := eint_any g B0 b1 f1 99 (by decide) (by omega) w1 he1
        have hEl := Gr.enum_len 99 b1 f1
        obtain ⟨E, hE⟩ : ∃ E, E = Gr.enum 99 b1 f1 := ⟨_, rfl⟩
        have hS2 : Ms.steps (ls.take (pos + 1)) (m, b, f) = ({m1 with code := E.1}, E.2) := by rw [HS1.out, hE]; rfl
        rw [← hE] at hM hEl
        obtain ⟨v, b2, f2⟩ := E
        have HS2 := Lib.hid hS2
        clear hS2 hE
        simp only at hEl
        go_wp2_with (first
          | (go_at_call 47; refine (hnum _ _ (by first | exact hm1 | exact hm3)).mono ?_; rintro e w' ⟨rfl, rfl⟩)
          | (go_at_call 48; refine (hbig _ _ (by first | exact hm1 | exact hm3)).mono ?_; rintro e w' ⟨rfl, rfl⟩)
          | (go_at_call 60
             refine hM.mono ?_
             rintro e w2 ⟨rfl, he2, hg2⟩
             simp only at he2 ⊢
             have hm2 := hm1.eye he1 hg2 (by decide) (by decide) (by decide)
             obtain ⟨A, c, A2, c2, hk, _⟩ := id hm2
             have x := hk.cell 12
             have y := hk.frozen 12
             simp [mCells] at x
             obtain ⟨hm3, he3, hg3⟩ := hm2.put (m' := {m1 with code := (v : Int)}) he2 (by decide) 12 (.int .i64 (v : Int)) rfl rfl rfl (fun _ _ _ _ => rfl)
             have hit3 := hm2.iter_stay (he1.iter_stay hit1 hg2) hg3
             have h23 := (h21.trans (two_left hg2)).trans (two_right hg3)
             clear hk))
        go_roundg (gk - 1)
        case measure => omega
        case rel => exact ⟨pos + 1, _, b2, f2, by omega, by omega, hit3, he3, hm3, h23, HS2⟩
      · have hnum : ∀ w' mm, MsgW w' B0 gm mm → Calls Tryz.prog 47 #[.pointer (some ⟨gm, 0, none⟩), .int .i32 100] w' (fun e w2 => e = .returned (.tuple #[.pointer none, .int .i64 0, .bool false]) ∧ w2 = w') := fun w' mm h => mnum_w gm 100 (by decide) w' h
        have hbig : ∀ w' mm, MsgW w' B0 gm mm → Calls Tryz.prog 48 #[.pointer (some ⟨gm, 0, none⟩), .int .i32 100] w' (fun e w2 => e = .returned (.pointer none) ∧ w2 = w') := fun w' mm h => mbig_w gm 100 (by decide) w' h
        have hnx1 := hnx
        simp only [UInt8.toNat_ofNat, Nat.reducePow, Nat.reduceMod] at hnx1
        clear hnx
        have hM := etext_any g B0 b1 f1 200 (by decide) (by omega) w1 he1
        have hEl := Gr.etext_left 200 b1 f1
        obtain ⟨E, hE⟩ : ∃ E, E = Gr.etext 200 b1 f1 := ⟨_, rfl⟩
        have hS2 : Ms.steps (ls.take (pos + 1)) (m, b, f) = ({m1 with data := E.1}, E.2) := by rw [HS1.out, hE]; rfl
        rw [← hE] at hM hEl
        obtain ⟨d, b2, f2⟩ := E
        have HS2 := Lib.hid hS2
        clear hS2 hE
        simp only at hEl
        go_wp2_with (first
          | (go_at_call 47; refine (hnum _ _ (by first | exact hm1 | exact hm3)).mono ?_; rintro e w' ⟨rfl, rfl⟩)
          | (go_at_call 48; refine (hbig _ _ (by first | exact hm1 | exact hm3)).mono ?_; rintro e w' ⟨rfl, rfl⟩)
          | (go_at_call 62
             refine hM.mono ?_
             rintro e w2 ⟨A3, c3, rfl, ho, he2, hg2⟩
             simp only at he2 ho ⊢
             have hd : Dat w2 0 A3 d := Dat.own ho
             have hcl := ho.le
             have hm2 := hm1.eye he1 hg2 (by decide) (by decide) (by decide)
             obtain ⟨A, c, A2, c2, hk, _⟩ := id hm2
             have x := hk.cell 14
             have y := hk.frozen 14
             simp [mCells] at x
             obtain ⟨hm3, he3, hg3⟩ := hm2.putData he2 (by decide) hd hcl
             have hit3 := hm2.iter_stay (he1.iter_stay hit1 hg2) hg3
             have h23 := (h21.trans (two_left hg2)).trans (two_right hg3)
             clear hk))
        go_roundg (gk - 1)
        case measure => omega
        case rel => exact ⟨pos + 1, _, b2, f2, by omega, by omega, hit3, he3, hm3, h23, HS2⟩
      · have hnum : ∀ w' mm, MsgW w' B0 gm mm → Calls Tryz.prog 47 #[.pointer (some ⟨gm, 0, none⟩), .int .i32 114] w' (fun e w2 => e = .returned (.tuple #[.pointer none, .int .i64 0, .bool false]) ∧ w2 = w') := fun w' mm h => mnum_w gm 114 (by decide) w' h
        have hbig : ∀ w' mm, MsgW w' B0 gm mm → Calls Tryz.prog 48 #[.pointer (some ⟨gm, 0, none⟩), .int .i32 114] w' (fun e w2 => e = .returned (.pointer none) ∧ w2 = w') := fun w' mm h => mbig_w gm 114 (by decide) w' h
        have hnx1 := hnx
        simp only [UInt8.toNat_ofNat, Nat.reducePow, Nat.reduceMod] at hnx1
        clear hnx
        have hM := mrows_any g B0 b1 f1 (by omega) w1 he1
        have hEl := Ms.rowsP_left b1 f1
        obtain ⟨E, hE⟩ : ∃ E, E = Ms.rowsP b1 f1 := ⟨_, rfl⟩
        have hS2 : Ms.steps (ls.take (pos + 1)) (m, b, f) = ({m1 with rows := E.1}, E.2) := by rw [HS1.out, hE]; rfl
        rw [← hE] at hM hEl
        obtain ⟨d, b2, f2⟩ := E
        have HS2 := Lib.hid hS2
        clear hS2 hE
        simp only at hEl
        go_wp2_with (first
          | (go_at_call 47; refine (hnum _ _ (by first | exact hm1 | exact hm3)).mono ?_; rintro e w' ⟨rfl, rfl⟩)
          | (go_at_call 48; refine (hbig _ _ (by first | exact hm1 | exact hm3)).mono ?_; rintro e w' ⟨rfl, rfl⟩)
          | (go_at_call 63
             refine hM.mono ?_
             rintro e w2 ⟨A3, c3, rfl, ho, he2, hg2⟩
             simp only at he2 ho ⊢
             have hd := ho.rs (B0 := 0)
             have hcl := ho.le
             have hm2 := hm1.eye he1 hg2 (by decide) (by decide) (by decide)
             obtain ⟨A, c, A2, c2, hk, _⟩ := id hm2
             have x := hk.cell 15
             have y := hk.frozen 15
             simp [mCells] at x
             obtain ⟨hm3, he3, hg3⟩ := hm2.putRows he2 (by decide) hd hcl
             have hit3 := hm2.iter_stay (he1.iter_stay hit1 hg2) hg3
             have h23 := (h21.trans (two_left hg2)).trans (two_right hg3)
             clear hk))
        go_roundg (gk - 1)
        case measure => omega
        case rel => exact ⟨pos + 1, _, b2, f2, by omega, by omega, hit3, he3, hm3, h23, HS2⟩
end Go.Proofs.YthhhiiagppckhaaGreatDoor
end
