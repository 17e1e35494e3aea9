/- The walk of the document's Read of a message; conditions: none beyond its hypotheses. -/
import Derived.Test.YthhhiiagppckhaaMs6
namespace Go.Proofs.Ythhhiiagppckhaa
open Go.RowKit Go.Proofs.U
set_option linter.unusedVariables false

/-- a message that the document's Read fills, beside its eye and its result -/
structure RS (w0 w : World) (B0 g gm q : Nat) (m : Ms.Msg) (b : List UInt8) (f : Nat) : Prop where
  eye : EyeW w 52 g B0 b f
  msg : ∃ A c A2 c2, Blk w gm 28 (mCells m A c A2 c2) ∧ BS w B0 A m.data.length m.data ∧ m.data.length ≤ c ∧ RwO w w0.heap.size A2 m.rows.length c2 m.rows ∧ (Value.slice A2 m.rows.length c2).ownBlock ≠ some q
  res : Blk w w0.heap.size 28 (mCells Ms.zero none 0 none 0)
  bel : Below w0.heap.size w0 w
  o1 : w0.heap.size < g
  o2 : w0.heap.size < gm
  o3 : g ≠ gm
  o4 : B0 ≤ w0.heap.size
theorem bs_only {w w' : World} {B q n : Nat} {A : Option Addr} {bs : List UInt8} (h : BS w B A n bs) (hg : w.grownBy w' (some q)) (hq : B ≤ q) (hB : B ≤ w.heap.size) : BS w' B A n bs :=
  h.grown hg hB (fun k hk => by injection hk; omega)
theorem RS.eyed {w0 w w' : World} {B0 g gm q f f' : Nat} {m : Ms.Msg} {b b' : List UInt8} (h : RS w0 w B0 g gm q m b f) (hg : w.grownBy w' (some g)) (he : EyeW w' 52 g B0 b' f') : RS w0 w' B0 g gm q m b' f' := by
  obtain ⟨A, c, A2, c2, k1, k2, k3, k4, k5⟩ := h.msg
  have hb := h.bel.size
  have o1 := h.o1
  have o2 := h.o2
  have o3 := h.o3
  have o4 := h.o4
  obtain ⟨_, _, _, hke, _⟩ := id h.eye
  exact ⟨he, ⟨A, c, A2, c2, k1.grown hg (by intro e; injection e with e; exact o3 e.symm), bs_only k2 hg (by omega) (by omega), k3, k4.grown hg hke (by decide), k5⟩, h.res.grown hg (by intro e; injection e with e; omega), h.bel.grown hg hb (fun k hk => by injection hk; omega), o1, o2, o3, o4⟩
theorem RS.xset {w0 w w' : World} {B0 g gm q f : Nat} {m : Ms.Msg} {b : List UInt8} (h : RS w0 w B0 g gm q m b f) (hg : w.grownBy w' (some q)) (hq : w0.heap.size < q) (h1 : q ≠ g) (h2 : q ≠ gm) : RS w0 w' B0 g gm q m b f := by
  obtain ⟨A, c, A2, c2, k1, k2, k3, k4, k5⟩ := h.msg
  have hb := h.bel.size
  have o1 := h.o1
  have o2 := h.o2
  have o4 := h.o4
  exact ⟨h.eye.grown hg (fun e => h1 e.symm) (by omega), ⟨A, c, A2, c2, k1.grown hg (by intro e; injection e with e; exact h2 e.symm), bs_only k2 hg (by omega) (by omega), k3, ⟨World.ownsRow.kept k4.1 hg (.inr k5), k4.2⟩, k5⟩, h.res.grown hg (by intro e; injection e with e; omega), h.bel.grown hg hb (fun k hk => by injection hk; omega), o1, o2, h.o3, o4⟩
theorem RS.new {w0 w : World} {B0 g gm q f : Nat} {m : Ms.Msg} {b : List UInt8} (h : RS w0 w B0 g gm q m b f) (o : Obj) : RS w0 (w.alloc o) B0 g gm w.heap.size m b f := by
  obtain ⟨A, c, A2, c2, k1, k2, k3, k4, k5⟩ := h.msg
  have hb := h.bel.size
  have o4 := h.o4
  have hal := alloc_b w o
  exact ⟨h.eye.below hal, ⟨A, c, A2, c2, k1.stay hal, k2.keep fun p hp => hal.cell (by omega), k3, ⟨World.ownsRow.alloc k4.1 o, k4.2⟩, fun e => by have := (World.ownsRow.lt k4.1 _ e).2; omega⟩, h.res.stay hal, h.bel.trans (hal.mono hb), h.o1, h.o2, h.o3, o4⟩
theorem RS.same {w0 w : World} {B0 g gm q q' f : Nat} {m : Ms.Msg} {b : List UInt8} (h : RS w0 w B0 g gm q m b f) (o : Obj) : RS w0 (w.alloc o) B0 g gm q m b f := by
  obtain ⟨A, c, A2, c2, k1, k2, k3, k4, k5⟩ := h.msg
  have hb := h.bel.size
  have o4 := h.o4
  have hal := alloc_b w o
  exact ⟨h.eye.below hal, ⟨A, c, A2, c2, k1.stay hal, k2.keep fun p hp => hal.cell (by omega), k3, ⟨World.ownsRow.alloc k4.1 o, k4.2⟩, k5⟩, h.res.stay hal, h.bel.trans (hal.mono hb), h.o1, h.o2, h.o3, o4⟩
theorem RS.put {w0 w w' : World} {B0 g gm q f : Nat} {m m' : Ms.Msg} {b : List UInt8} (h : RS w0 w B0 g gm q m b f) (i : Nat) (v : Value) (hw : w' = w.setCell ⟨gm, i, none⟩ v)
    (hd : m'.data = m.data) (hr : m'.rows = m.rows) (hc : ∀ A c A2 c2, (mCells m A c A2 c2).setIfInBounds i v = mCells m' A c A2 c2) : RS w0 w' B0 g gm q m' b f := by
  subst hw
  obtain ⟨A, c, A2, c2, k1, k2, k3, k4, k5⟩ := h.msg
  have hb := h.bel.size
  have o1 := h.o1
  have o2 := h.o2
  have o3 := h.o3
  have o4 := h.o4
  have hg : w.grownBy (w.setCell ⟨gm, i, none⟩ v) (some gm) := only_setCell (World.grownBy.refl _ _) (.inl rfl) _
  have k7 := k1.set_ i v
  rw [hc] at k7
  exact ⟨h.eye.grown hg o3 (by omega), ⟨A, c, A2, c2, k7, by rw [hd]; exact bs_only k2 hg (by omega) (by omega), by rw [hd]; exact k3, by rw [hr]; exact k4.grown hg k1 (by decide), by rw [hr]; exact k5⟩, h.res.grown hg (by intro e; injection e with e; omega), h.bel.grown hg hb (fun k hk => by injection hk; omega), o1, o2, o3, o4⟩
theorem RS.putData {w0 w : World} {B0 g gm q f c0 : Nat} {m : Ms.Msg} {b d : List UInt8} {A0 : Option Addr} (h : RS w0 w B0 g gm q m b f) (hd : BS w B0 A0 d.length d) (hc : d.length ≤ c0) :
    RS w0 (w.setCell ⟨gm, 14, none⟩ (.slice A0 d.length c0)) B0 g gm q {m with data := d} b f := by
  obtain ⟨A, c, A2, c2, k1, k2, k3, k4, k5⟩ := h.msg
  have hb := h.bel.size
  have o1 := h.o1
  have o2 := h.o2
  have o3 := h.o3
  have o4 := h.o4
  have hg : w.grownBy (w.setCell ⟨gm, 14, none⟩ (.slice A0 d.length c0)) (some gm) := only_setCell (World.grownBy.refl _ _) (.inl rfl) _
  exact ⟨h.eye.grown hg o3 (by omega), ⟨A0, c0, A2, c2, k1.set_ 14 _, bs_only hd hg (by omega) (by omega), hc, k4.grown hg k1 (by decide), k5⟩, h.res.grown hg (by intro e; injection e with e; omega), h.bel.grown hg hb (fun k hk => by injection hk; omega), o1, o2, o3, o4⟩
/-- a row is appended, and the rows are put into their cell -/
theorem RS.app {w0 w w2 : World} {B0 g gm q f c2 c3 n n3 : Nat} {m : Ms.Msg} {b : List UInt8} {A2 A3 : Option Addr} {l : List Ms.Rw} {vs : List Value} (h : RS w0 w B0 g gm q m b f) (hown : w.ownsRow w0.heap.size 57 5 (.slice A2 n c2) n vs)
    (h2 : w2.ownsRow w0.heap.size 57 5 (.slice A3 n3 c3) n3 (l.flatMap rwCells)) (hn : l.length = n3) (hg : w.grownBy w2 (Value.slice A2 n c2).ownBlock) : RS w0 (w2.setCell ⟨gm, 15, none⟩ (.slice A3 n3 c3)) B0 g gm w0.heap.size {m with rows := l} b f := by
  subst hn
  obtain ⟨A, c, A4, c4, k1, k2, k3, k4, k5⟩ := h.msg
  have hb := h.bel.size
  have o1 := h.o1
  have o2 := h.o2
  have o3 := h.o3
  have o4 := h.o4
  have hlt := fun k hk => (World.ownsRow.lt hown k hk).1
  have he := eye_row h.eye hown hg o4 (by decide)
  have r1 := h.res.grown hg (h.res.row_ne hown (by decide))
  have b1 := h.bel.grown hg hb hlt
  have d1 : BS w2 B0 A m.data.length m.data := k2.grown hg (by omega) (fun k hk => Nat.le_trans o4 (hlt k hk))
  have k7 := k1.grown hg (k1.row_ne hown (by decide))
  have hg3 : w2.grownBy (w2.setCell ⟨gm, 15, none⟩ (.slice A3 l.length c3)) (some gm) := only_setCell (World.grownBy.refl _ _) (.inl rfl) _
  have hb1 := b1.size
  have hR : RwO w2 w0.heap.size A3 l.length c3 l := ⟨h2, rfl⟩
  have r2 := r1.grown hg3 (by intro e; injection e with e; omega)
  exact ⟨he.grown hg3 o3 (by omega), ⟨A, c, A3, c3, k7.set_ 15 _, bs_only d1 hg3 (by omega) (by omega), k3, hR.grown hg3 k7 (by decide), fun e => r1.row_ne h2 (by decide) e.symm⟩, r2, b1.grown hg3 hb1 (fun k hk => by injection hk; omega), o1, o2, o3, o4⟩
theorem RS.rows {w0 w : World} {B0 g gm q f n : Nat} {m : Ms.Msg} {b : List UInt8} (h : RS w0 w B0 g gm q m b f) (hn : m.rows.length = n) :
    ∃ A2 c2, w.cell? ⟨gm, 15, none⟩ = some (.slice A2 n c2) ∧ w.ownsRow w0.heap.size 57 5 (.slice A2 n c2) n (m.rows.flatMap rwCells) ∧ w.frozen? ⟨gm, 15, none⟩ = false ∧ gm < w.heap.size := by
  subst hn
  obtain ⟨A, c, A2, c2, k1, k2, k3, k4, k5⟩ := h.msg
  exact ⟨A2, c2, k1.cell 15, k4.1, k1.frozen 15, k1.lt⟩
theorem RS.cell15 {w0 w w2 : World} {B0 g gm q f n c2 : Nat} {m : Ms.Msg} {b : List UInt8} {A2 : Option Addr} {vs : List Value} (h : RS w0 w B0 g gm q m b f) (hown : w.ownsRow w0.heap.size 57 5 (.slice A2 n c2) n vs) (hg : w.grownBy w2 (Value.slice A2 n c2).ownBlock) :
    ∃ v, w2.cell? ⟨gm, 15, none⟩ = some v ∧ w2.frozen? ⟨gm, 15, none⟩ = false := by
  obtain ⟨A, c, A3, c3, k1, _⟩ := h.msg
  have k2 := k1.grown hg (k1.row_ne hown (by decide))
  exact ⟨_, k2.cell 15, k2.frozen 15⟩
theorem RS.back {w0 w : World} {B0 g gm q f : Nat} {m : Ms.Msg} {b : List UInt8} (h : RS w0 w B0 g gm q m b f) : RS w0 w B0 g gm w0.heap.size m b f := by
  obtain ⟨A, c, A2, c2, k1, k2, k3, k4, k5⟩ := h.msg
  exact ⟨h.eye, ⟨A, c, A2, c2, k1, k2, k3, k4, fun e => h.res.row_ne k4.1 (by decide) e.symm⟩, h.res, h.bel, h.o1, h.o2, h.o3, h.o4⟩
theorem nodup_take {l : List UInt8} {k : Nat} {c : UInt8} (hn : l.Nodup) (h : l[k]? = some c) : c ∉ l.take k := by
  have hk : k < l.length := (List.getElem?_eq_some_iff.1 h).1
  have e : l = l.take k ++ l.drop k := (List.take_append_drop k l).symm
  rw [e, List.nodup_append] at hn
  intro hc
  have hd : c ∈ l.drop k := by
    have : (l.drop k)[0]? = some c := by rw [List.getElem?_drop]; simpa using h
    exact List.mem_of_getElem? this
  exact hn.2.2 c hc c hd rfl
theorem not_take {l : List UInt8} {k : Nat} {c : UInt8} (h : c ∉ l.take (k + 1)) : c ∉ l.take k := fun hc => h (by rw [List.take_add_one]; exact List.mem_append_left _ hc)
theorem in_take {l : List UInt8} {k : Nat} {c : UInt8} (h : l[k]? = some c) : c ∈ l.take (k + 1) := by rw [List.take_add_one, h]; simp
theorem idx_at {w : World} {l : List UInt8} {k : Nat} {c : UInt8} (h : l[k]? = some c) : (Instr.index 9 (.string (strOf l)) (.int .i64 (k : Int))).run Try.prog w = .ok (.int .u8 (c.toNat : Int)) w := by
  have hk : k < (strOf l).size := by rw [str_size]; exact (List.getElem?_eq_some_iff.1 h).1
  rw [run_index_string _ _ _ _ _ Try.underlying9, dif_pos (by omega)]
  have e := str_at l k c h hk
  simp only [Int.toNat_natCast, e]
theorem Calls.of_eq {P : Program} {f : Nat} {args : Array Value} {w w' : World} {Q : Ending → World → Prop} (h : w = w') (hc : Calls P f args w Q) : Calls P f args w' Q := h ▸ hc
theorem hasN_short (k : Nat) : (Ms.hasN k).length ≤ 10 := by
  by_cases h : 16 < k
  · rw [Ms.hasN_big k h]; simp
  · have : ∀ k : Fin 17, (Ms.hasN k.1).length ≤ 10 := by decide
    exact this ⟨k, by omega⟩
theorem str_old {w : World} {B0 : Nat} {A : Option Addr} {d : List UInt8} (h : BS w B0 A d.length d) (hB : B0 ≤ w.heap.size) (c : Nat) : (convert 22 9 (.slice A d.length c)).run Try.prog w = .ok (.string (strOf d)) w :=
  str_of (Dat.old h hB) c
set_option maxRecDepth 100000 in
set_option maxHeartbeats 8000000 in
theorem rRead_any (A : Option Addr) (n c B0 : Nat) (b : List UInt8) (w : World) (hb : BS w B0 A n b) (hB : B0 ≤ w.heap.size) (hc : n ≤ c) (hn : n ≤ 140737488355328) :
    Calls Try.prog 6 #[.slice A n c] w (ReadRet w B0 (Ms.readP b)) := by
  have hl := hb.1
  obtain ⟨R, hR⟩ : ∃ R, R = Ms.readP b := ⟨_, rfl⟩
  rw [← hR]
  have HR := Lib.hid (And.intro hR hl)
  clear hR hl
  go_enter Try.func6, Try.ntmps6
  go_wp2_with fail
  have hbw1 : Below w.heap.size w ((w.alloc (.cells (mCells Ms.zero none 0 none 0) 28)).alloc (.cells #[.slice A n c, .int .i64 ((0 : Nat) : Int)] 52)) := (alloc_b w _).trans ((alloc_b _ _).mono (alloc_b w _).size)
  have hr1 : Blk ((w.alloc (.cells (mCells Ms.zero none 0 none 0) 28)).alloc (.cells #[.slice A n c, .int .i64 ((0 : Nat) : Int)] 52)) w.heap.size 28 (mCells Ms.zero none 0 none 0) := (Blk.new w _ _).alloc _
  have he1 : EyeW ((w.alloc (.cells (mCells Ms.zero none 0 none 0) 28)).alloc (.cells #[.slice A n c, .int .i64 ((0 : Nat) : Int)] 52)) 52 (w.heap.size + 1) B0 b 0 := by
    have hk := Blk.new (w.alloc (.cells (mCells Ms.zero none 0 none 0) 28)) 52 #[.slice A n c, .int .i64 ((0 : Nat) : Int)]
    rw [World.size_alloc] at hk
    exact ⟨A, n, c, hk, hb.below (hbw1.mono hB), hc, by omega⟩
  obtain ⟨w1, hw1⟩ : ∃ w1, w1 = ((w.alloc (.cells (mCells Ms.zero none 0 none 0) 28)).alloc (.cells #[.slice A n c, .int .i64 ((0 : Nat) : Int)] 52)) := ⟨_, rfl⟩
  rw [← hw1] at hbw1 hr1 he1
  refine Calls.of_eq hw1 ?_
  clear hw1
  obtain ⟨g, hg⟩ : ∃ g, g = w.heap.size + 1 := ⟨_, rfl⟩
  rw [← hg] at he1 ⊢
  have hg0 : w.heap.size < g := by omega
  clear hg
  have hbl : b.length ≤ 140737488355328 := by rw [HR.out.2]; exact hn
  have hN := read_any g B0 b 0 18446744073709551615 (by decide) (by omega) w1 he1
  have hNl := Gr.enum_len 18446744073709551615 b 0
  have hNm := Gr.enum_le 18446744073709551615 b 0
  obtain ⟨E, hE⟩ : ∃ E, E = Gr.enum 18446744073709551615 b 0 := ⟨_, rfl⟩
  rw [← hE] at hN hNl hNm
  obtain ⟨v, b2, f2⟩ := E
  have HE := Lib.hid hE
  clear hE hb
  simp only at hNl hNm
  refine hN.mono ?_
  rintro e w2 ⟨rfl, he2, hg2⟩
  simp only at he2 ⊢
  have hr2 := hr1.grown hg2 (by intro e; injection e with e; omega)
  have hbw2 := hbw1.grown hg2 hbw1.size (fun k hk => by injection hk; omega)
  clear hN he1 hr1 hg2
  have hgl := he2.lt
  by_cases hv : v ≤ 16
  · have i1 : (v : Int) ≤ 16 := by omega
    by_cases hv0 : v = 0
    · subst hv0
      have hv' : ¬ (1 ≤ 0 ∧ 0 ≤ 16) := by omega
      have he3 := he2.below (alloc_b w2 (.cells (mCells Ms.zero none 0 none 0) 28))
      have hr3 := hr2.alloc (.cells (mCells Ms.zero none 0 none 0) 28)
      have hbw3 := hbw2.trans ((alloc_b w2 (.cells (mCells Ms.zero none 0 none 0) 28)).mono hbw2.size)
      go_wp2_with fail
      refine (rhas_in ⟨0, by decide⟩ _).mono ?_
      rintro e w3 ⟨rfl, rfl⟩
      rw [show Ms.hasN (⟨0, by decide⟩ : Fin 17).1 = [] from rfl]
      go_wp2_with fail
      refine (refail_any g B0 b2 f2 2 (by decide) _ he3).mono ?_
      rintro e w4 ⟨rfl, he4, hg4⟩
      have hr4 := hr3.grown hg4 (by intro e; injection e with e; omega)
      have hbw4 := hbw3.grown hg4 hbw3.size (fun k hk => by injection hk; omega)
      obtain ⟨F, hF⟩ : ∃ F, F = Gr.efail 2 b2 f2 := ⟨_, rfl⟩
      rw [← hF] at he4
      have HF := Lib.hid hF
      clear hF he3 hr3 hbw3 hg4
      obtain ⟨b5, f5⟩ := F
      simp only at he4
      have hE := HR.out.1.trans (readP_no HE.out Ms.MAX_lt (hasN_none 0 hv'))
      rw [← HF.out] at hE
      simp only at hE
      have h0 : Ms.close b5 f5 ≠ 0 := by
        have := Ms.close_bad (b := b2) (f := f2)
        rw [← HF.out] at this
        exact this
      obtain ⟨CL, hCL⟩ : ∃ CL, CL = Ms.close b5 f5 := ⟨_, rfl⟩
      have HE2 := Lib.hid (And.intro hE hCL)
      rw [← hCL] at h0
      clear hE hCL
      go_wp2_with fail
      go_loopg [9] 0 (fun r i wr => i = .int .i64 0 ∧ wr = w4)
      case atStart => exact ⟨rfl, rfl⟩
      case round =>
        obtain ⟨rfl, rfl⟩ := hrel
        go_wp2_with fail
        refine (rclose_any g B0 b5 f5 _ he4).mono ?_
        rintro e w5 ⟨rfl, rfl⟩
        rw [← HE2.out.2]
        have hff : ((CL : Int) == 0) = false := by rw [beq_eq_false_iff_ne]; omega
        have hff2 : ((CL : Int) != 0) = true := by rw [bne_iff_ne]; omega
        go_wp2_with (refine wpList_store_blk rfl 28 (.tmp 2) (.tmp 162) rfl w.heap.size (mCells Ms.zero none 0 none 0) rfl rfl _ _ hr4 infoM16 rfl (mCells_one _ _ _ _ _) ?_; intro w8 hk8 hg8)
        refine bodyPost_ret (results_row2 Try.results6 _ _ w.heap.size _ _ _ rfl hk8 Try.underlying28 rfl infoM16) rfl ?_
        have hE := HE2.out.1
        rw [← HE2.out.2] at hE
        subst hE
        exact ⟨_, rfl, ⟨none, 0, none, 0, rfl, Dat.nil _ _ _, Nat.le_refl _, RwS.nil _ _ _, Nat.le_refl _⟩, hbw4.grown hg8 hbw4.size (fun j hj => by injection hj; omega)⟩
    · obtain ⟨k, rfl⟩ : ∃ k, v = k + 1 := ⟨v - 1, by omega⟩
      have hal := alloc_b w2 (.cells (mCells {Ms.zero with kind := ((k + 1 : Nat) : Int)} none 0 none 0) 28)
      have hrs : RS w (w2.alloc (.cells (mCells {Ms.zero with kind := ((k + 1 : Nat) : Int)} none 0 none 0) 28)) B0 g w2.heap.size w.heap.size {Ms.zero with kind := ((k + 1 : Nat) : Int)} b2 f2 :=
        ⟨he2.below hal, ⟨none, 0, none, 0, Blk.new _ _ _, BS.nil _ _ _, Nat.le_refl _, ⟨World.ownsRow_nil _ _ _ _, rfl⟩, by intro e; cases e⟩, hr2.stay hal, hbw2.trans (hal.mono hbw2.size), hg0, by have := hbw2.size; omega, by omega, hB⟩
      go_wp2_with fail
      obtain ⟨w3, hw3⟩ : ∃ w3, w3 = (w2.alloc (.cells (mCells {Ms.zero with kind := ((k + 1 : Nat) : Int)} none 0 none 0) 28)) := ⟨_, rfl⟩
      rw [← hw3] at hrs
      refine Calls.of_eq hw3 ?_
      clear hw3
      refine (rhas_in ⟨k + 1, by omega⟩ _).mono ?_
      rintro e w3' ⟨rfl, rfl⟩
      have hne := hasN_ne k (by omega)
      obtain ⟨P, hP⟩ : ∃ P, P = Ms.hasN (k + 1) := ⟨_, rfl⟩
      rw [show Ms.hasN (⟨k + 1, by omega⟩ : Fin 17).1 = P from hP.symm]
      rw [← hP] at hne
      have hne2 : P ≠ [] := by simpa using hne
      have hPs := str_size P
      have hPe : P.isEmpty = false := by simpa using hne2
      have hPl : P.length ≤ 10 := by rw [hP]; exact hasN_short (k + 1)
      have HP := Lib.hid (And.intro hP (And.intro hne2 hPs))
      obtain ⟨gm, hgm⟩ : ∃ gm, gm = w2.heap.size := ⟨_, rfl⟩
      rw [← hgm] at hrs hgl ⊢
      clear hP hne hr2 he2 hal hPs hne2 hbw2 hgm
      go_wp2_with fail
      go_loopg [9] P.length (fun r i wr => ∃ (pos : Nat) (m' : Ms.Msg) (b' : List UInt8) (f' : Nat), i = .int .i64 (pos : Int) ∧ r + pos = P.length ∧ b'.length ≤ 140737488355328 ∧ RS w wr B0 g gm w.heap.size m' b' f' ∧ Hid (Ms.steps (P.take pos) ({Ms.zero with kind := ((k + 1 : Nat) : Int)}, b2, f2) = (m', b', f')) ∧ Hid ((114 : UInt8) ∉ P.take pos → m'.rows = []))
      case atStart => exact ⟨0, _, b2, f2, rfl, by omega, by omega, hrs, Lib.hid rfl, Lib.hid fun _ => rfl⟩
      case round =>
        clear hrs
        obtain ⟨pos, m1, b1, f1, rfl, hpos, hb1, hrs, HS, HW⟩ := hrel
        obtain ⟨wo, rfl⟩ : ∃ wo : World, wo = wr := ⟨_, rfl⟩
        have hPs := HP.out.2.2
        by_cases hk : gk = 0
        · subst hk
          have i2 : ¬ ((pos : Int) < ((strOf P).size : Int)) := by omega
          have hrd : Ms.steps P ({Ms.zero with kind := ((k + 1 : Nat) : Int)}, b2, f2) = (m1, b1, f1) := by rw [← HS.out]; rw [List.take_of_length_le (by omega)]
          have hS' : (m1, b1, f1) = Ms.steps (Ms.hasN (k + 1)) ({Ms.zero with kind := ((k + 1 : Nat) : Int)}, b2, f2) := by rw [← HP.out.1]; exact hrd.symm
          have hE := HR.out.1.trans (readP_all HE.out Ms.MAX_lt (by rw [← HP.out.1]; exact HP.out.2.1) hS')
          have hcl := rclose_any g B0 b1 f1 wo hrs.eye
          obtain ⟨CL, hCL⟩ : ∃ CL, CL = Ms.close b1 f1 := ⟨_, rfl⟩
          rw [← hCL] at hE hcl
          have HE2 := Lib.hid hE
          have HCL := Lib.hid hCL
          clear hE hCL hrd hS'
          go_wp2_with fail
          refine hcl.mono ?_
          rintro e w5 ⟨rfl, rfl⟩
          clear hcl
          obtain ⟨A1, c1, A2, c2, q1, q2, q3, q4, q5⟩ := hrs.msg
          have hr5 := hrs.res
          have hbw5 := hrs.bel
          by_cases h0 : CL = 0
          · subst h0
            have HQ := Lib.hid q1
            go_wp2_with (first
              | (refine wpList_load_blk rfl 28 (.tmp 7) rfl gm rfl 28 _ _ HQ.out Try.underlying28 rfl infoM16 ?_)
              | (refine wpList_store_blk rfl 28 (.tmp 2) (.tmp 164) rfl w.heap.size _ rfl rfl _ _ hr5 infoM16 rfl (mCells_one _ _ _ _ _) ?_; intro w8 hk8 hg8))
            refine bodyPost_ret (results_row2 Try.results6 _ _ w.heap.size _ _ _ rfl hk8 Try.underlying28 rfl infoM16) rfl ?_
            have hE := HE2.out
            rw [if_neg (by simp)] at hE
            subst hE
            have hs5 := hbw5.size
            have hK := kept_grown (B0 := B0) hg8 hB hr5 (by decide) (by decide)
            exact ⟨_, rfl, ⟨A1, c1, A2, c2, rfl, (Dat.old q2 (by omega)).kept hK, q3, (q4.rs (B0 := B0)).kept hK, q4.le⟩, hbw5.grown hg8 hs5 (fun j hj => by injection hj; omega)⟩
          · have hff : ((CL : Int) == 0) = false := by rw [beq_eq_false_iff_ne]; omega
            have hff2 : ((CL : Int) != 0) = true := by rw [bne_iff_ne]; omega
            go_wp2_with (refine wpList_store_blk rfl 28 (.tmp 2) (.tmp 162) rfl w.heap.size (mCells Ms.zero none 0 none 0) rfl rfl _ _ hr5 infoM16 rfl (mCells_one _ _ _ _ _) ?_; intro w8 hk8 hg8)
            refine bodyPost_ret (results_row2 Try.results6 _ _ w.heap.size _ _ _ rfl hk8 Try.underlying28 rfl infoM16) rfl ?_
            have hE := HE2.out
            rw [if_pos (by simpa using h0)] at hE
            subst hE
            exact ⟨_, rfl, ⟨none, 0, none, 0, rfl, Dat.nil _ _ _, Nat.le_refl _, RwS.nil _ _ _, Nat.le_refl _⟩, hbw5.grown hg8 hbw5.size (fun j hj => by injection hj; omega)⟩
        · obtain ⟨c, hcc⟩ : ∃ c, P[pos]? = some c := ⟨_, List.getElem?_eq_getElem (by omega)⟩
          have hca := (Ms.hasN_alpha (k + 1)).1 c (by rw [← HP.out.1]; exact List.mem_of_getElem? hcc)
          have hS1 := Ms.steps_take P pos c ({Ms.zero with kind := ((k + 1 : Nat) : Int)}, b2, f2) hcc
          rw [HS.out] at hS1
          have HS1 := Lib.hid hS1
          have hW1 : c ≠ 114 → ((114 : UInt8) ∉ P.take (pos + 1) → m1.rows = []) := fun _ h => HW.out (not_take h)
          have HW1 := HW
          have hix : ∀ W, (Instr.index 9 (.string (strOf P)) (.int .i64 (pos : Int))).run Try.prog W = .ok (.int .u8 (c.toNat : Int)) W := fun W => idx_at hcc
          have HC := Lib.hid hcc
          have i2 : (pos : Int) < ((strOf P).size : Int) := by omega
          clear hS1 HS hW1 hcc hPs
          simp only [Ms.alpha, List.mem_cons, List.not_mem_nil, or_false] at hca
          rcases hca with rfl | rfl | rfl | rfl | rfl | rfl | rfl | rfl | rfl | rfl | rfl | rfl | rfl | rfl | rfl
          · have hM := rint_any g B0 b1 f1 255 (by decide) (by omega) wo hrs.eye
            have hEl := Gr.enum_len 255 b1 f1
            obtain ⟨E, hE⟩ : ∃ E, E = Gr.enum 255 b1 f1 := ⟨_, rfl⟩
            have hS2 : Ms.steps (P.take (pos + 1)) ({Ms.zero with kind := ((k + 1 : Nat) : Int)}, b2, f2) = ({m1 with proto := E.1}, E.2) := by rw [HS1.out, hE]; rfl
            rw [← hE] at hM hEl
            obtain ⟨v, b3, f3⟩ := E
            have HS2 := Lib.hid hS2
            clear hS2 hE
            simp only at hEl
            go_wp2_with (first
              | (go_at_call 20
                 refine hM.mono ?_
                 rintro e w2 ⟨rfl, he2, hg2⟩
                 simp only at he2 ⊢
                 have hr2 := hrs.eyed hg2 he2
                 obtain ⟨A1, c1, A2, c2, hk1, _⟩ := id hr2.msg
                 have x := hk1.cell 3
                 have y := hk1.frozen 3
                 simp [mCells] at x
                 have hr3 := hr2.put (m' := {m1 with proto := (v : Int)}) 3 (.int .i64 (v : Int)) rfl rfl rfl (fun _ _ _ _ => rfl)
                 clear hk1))
            go_roundg (gk - 1)
            case measure => omega
            case rel => exact ⟨pos + 1, _, b3, f3, by go_num, by omega, by omega, hr3, HS2, Lib.hid fun hn => HW1.out (not_take hn)⟩
          · have hM := read_any g B0 b1 f1 18446744073709551615 (by decide) (by omega) wo hrs.eye
            have hEl := Gr.enum_len 18446744073709551615 b1 f1
            obtain ⟨E, hE⟩ : ∃ E, E = Gr.enum 18446744073709551615 b1 f1 := ⟨_, rfl⟩
            have hS2 : Ms.steps (P.take (pos + 1)) ({Ms.zero with kind := ((k + 1 : Nat) : Int)}, b2, f2) = ({m1 with session := E.1}, E.2) := by rw [HS1.out, hE]; rfl
            rw [← hE] at hM hEl
            obtain ⟨v, b3, f3⟩ := E
            have HS2 := Lib.hid hS2
            clear hS2 hE
            simp only at hEl
            go_wp2_with (first
              | (go_at_call 17
                 refine hM.mono ?_
                 rintro e w2 ⟨rfl, he2, hg2⟩
                 simp only at he2 ⊢
                 have hr2 := hrs.eyed hg2 he2
                 obtain ⟨A1, c1, A2, c2, hk1, _⟩ := id hr2.msg
                 have x := hk1.cell 1
                 have y := hk1.frozen 1
                 simp [mCells] at x
                 have hr3 := hr2.put (m' := {m1 with session := v}) 1 (.int .u64 (v : Int)) rfl rfl rfl (fun _ _ _ _ => rfl)
                 clear hk1))
            go_roundg (gk - 1)
            case measure => omega
            case rel => exact ⟨pos + 1, _, b3, f3, by go_num, by omega, by omega, hr3, HS2, Lib.hid fun hn => HW1.out (not_take hn)⟩
          · have hM := read_any g B0 b1 f1 18446744073709551615 (by decide) (by omega) wo hrs.eye
            have hEl := Gr.enum_len 18446744073709551615 b1 f1
            obtain ⟨E, hE⟩ : ∃ E, E = Gr.enum 18446744073709551615 b1 f1 := ⟨_, rfl⟩
            have hS2 : Ms.steps (P.take (pos + 1)) ({Ms.zero with kind := ((k + 1 : Nat) : Int)}, b2, f2) = ({m1 with n := E.1}, E.2) := by rw [HS1.out, hE]; rfl
            rw [← hE] at hM hEl
            obtain ⟨v, b3, f3⟩ := E
            have HS2 := Lib.hid hS2
            clear hS2 hE
            simp only at hEl
            go_wp2_with (first
              | (go_at_call 17
                 refine hM.mono ?_
                 rintro e w2 ⟨rfl, he2, hg2⟩
                 simp only at he2 ⊢
                 have hr2 := hrs.eyed hg2 he2
                 obtain ⟨A1, c1, A2, c2, hk1, _⟩ := id hr2.msg
                 have x := hk1.cell 2
                 have y := hk1.frozen 2
                 simp [mCells] at x
                 have hr3 := hr2.put (m' := {m1 with n := v}) 2 (.int .u64 (v : Int)) rfl rfl rfl (fun _ _ _ _ => rfl)
                 clear hk1))
            go_roundg (gk - 1)
            case measure => omega
            case rel => exact ⟨pos + 1, _, b3, f3, by go_num, by omega, by omega, hr3, HS2, Lib.hid fun hn => HW1.out (not_take hn)⟩
          · have hM := read_any g B0 b1 f1 1 (by decide) (by omega) wo hrs.eye
            have hEl := Gr.enum_len 1 b1 f1
            obtain ⟨E, hE⟩ : ∃ E, E = Gr.enum 1 b1 f1 := ⟨_, rfl⟩
            have hS2 : Ms.steps (P.take (pos + 1)) ({Ms.zero with kind := ((k + 1 : Nat) : Int)}, b2, f2) = ({m1 with flag := decide (E.1 = 1)}, E.2) := by rw [HS1.out, hE]; rfl
            rw [← hE] at hM hEl
            obtain ⟨v, b3, f3⟩ := E
            have HS2 := Lib.hid hS2
            clear hS2 hE
            simp only at hEl
            go_wp2_with (first
              | (go_at_call 17
                 refine hM.mono ?_
                 rintro e w2 ⟨rfl, he2, hg2⟩
                 simp only at he2 ⊢
                 have hvb : ((v : Int) == 1) = decide (v = 1) := by by_cases h1 : v = 1 <;> simp [h1] <;> omega
                 have hr2 := hrs.eyed hg2 he2
                 obtain ⟨A1, c1, A2, c2, hk1, _⟩ := id hr2.msg
                 have x := hk1.cell 13
                 have y := hk1.frozen 13
                 simp [mCells] at x
                 have hr3 := hr2.put (m' := {m1 with flag := decide (v = 1)}) 13 (.bool (decide (v = 1))) rfl rfl rfl (fun _ _ _ _ => rfl)
                 clear hk1))
            go_roundg (gk - 1)
            case measure => omega
            case rel => exact ⟨pos + 1, _, b3, f3, by go_num, by omega, by omega, hr3, HS2, Lib.hid fun hn => HW1.out (not_take hn)⟩
          · have hM := rtext_any g B0 b1 f1 96 (by decide) (by omega) wo hrs.eye
            have hEl := Gr.etext_left 96 b1 f1
            obtain ⟨E, hE⟩ : ∃ E, E = Gr.etext 96 b1 f1 := ⟨_, rfl⟩
            have hS2 : Ms.steps (P.take (pos + 1)) ({Ms.zero with kind := ((k + 1 : Nat) : Int)}, b2, f2) = ({m1 with path := E.1}, E.2) := by rw [HS1.out, hE]; rfl
            rw [← hE] at hM hEl
            obtain ⟨d, b3, f3⟩ := E
            have HS2 := Lib.hid hS2
            clear hS2 hE
            simp only at hEl
            go_wp2_with (first
              | (go_at_call 21
                 refine hM.mono ?_
                 rintro e w2 ⟨A3, c3, rfl, hcl, hd, he2, hg2⟩
                 simp only at he2 hd hcl ⊢
                 have hr2 := hrs.eyed hg2 he2
                 have kc := str_old hd (by have := hr2.bel.size; have := hr2.o4; omega) c3
                 obtain ⟨A1, c1, A2, c2, hk1, _⟩ := id hr2.msg
                 have x := hk1.cell 4
                 have y := hk1.frozen 4
                 simp [mCells] at x
                 have hr3 := hr2.put (m' := {m1 with path := d}) 4 (.string (strOf d)) rfl rfl rfl (fun _ _ _ _ => rfl)
                 clear hk1))
            go_roundg (gk - 1)
            case measure => omega
            case rel => exact ⟨pos + 1, _, b3, f3, by go_num, by omega, by omega, hr3, HS2, Lib.hid fun hn => HW1.out (not_take hn)⟩
          · have hM := rint_any g B0 b1 f1 2 (by decide) (by omega) wo hrs.eye
            have hEl := Gr.enum_len 2 b1 f1
            obtain ⟨E, hE⟩ : ∃ E, E = Gr.enum 2 b1 f1 := ⟨_, rfl⟩
            have hS2 : Ms.steps (P.take (pos + 1)) ({Ms.zero with kind := ((k + 1 : Nat) : Int)}, b2, f2) = ({m1 with what := E.1}, E.2) := by rw [HS1.out, hE]; rfl
            rw [← hE] at hM hEl
            obtain ⟨v, b3, f3⟩ := E
            have HS2 := Lib.hid hS2
            clear hS2 hE
            simp only at hEl
            go_wp2_with (first
              | (go_at_call 20
                 refine hM.mono ?_
                 rintro e w2 ⟨rfl, he2, hg2⟩
                 simp only at he2 ⊢
                 have hr2 := hrs.eyed hg2 he2
                 obtain ⟨A1, c1, A2, c2, hk1, _⟩ := id hr2.msg
                 have x := hk1.cell 5
                 have y := hk1.frozen 5
                 simp [mCells] at x
                 have hr3 := hr2.put (m' := {m1 with what := (v : Int)}) 5 (.int .i64 (v : Int)) rfl rfl rfl (fun _ _ _ _ => rfl)
                 clear hk1))
            go_roundg (gk - 1)
            case measure => omega
            case rel => exact ⟨pos + 1, _, b3, f3, by go_num, by omega, by omega, hr3, HS2, Lib.hid fun hn => HW1.out (not_take hn)⟩
          · have hM := read_any g B0 b1 f1 18446744073709551615 (by decide) (by omega) wo hrs.eye
            have hEl := Gr.enum_len 18446744073709551615 b1 f1
            obtain ⟨E, hE⟩ : ∃ E, E = Gr.enum 18446744073709551615 b1 f1 := ⟨_, rfl⟩
            have hS2 : Ms.steps (P.take (pos + 1)) ({Ms.zero with kind := ((k + 1 : Nat) : Int)}, b2, f2) = ({m1 with version := E.1}, E.2) := by rw [HS1.out, hE]; rfl
            rw [← hE] at hM hEl
            obtain ⟨v, b3, f3⟩ := E
            have HS2 := Lib.hid hS2
            clear hS2 hE
            simp only at hEl
            go_wp2_with (first
              | (go_at_call 17
                 refine hM.mono ?_
                 rintro e w2 ⟨rfl, he2, hg2⟩
                 simp only at he2 ⊢
                 have hr2 := hrs.eyed hg2 he2
                 obtain ⟨A1, c1, A2, c2, hk1, _⟩ := id hr2.msg
                 have x := hk1.cell 6
                 have y := hk1.frozen 6
                 simp [mCells] at x
                 have hr3 := hr2.put (m' := {m1 with version := v}) 6 (.int .u64 (v : Int)) rfl rfl rfl (fun _ _ _ _ => rfl)
                 clear hk1))
            go_roundg (gk - 1)
            case measure => omega
            case rel => exact ⟨pos + 1, _, b3, f3, by go_num, by omega, by omega, hr3, HS2, Lib.hid fun hn => HW1.out (not_take hn)⟩
          · have hM := read_any g B0 b1 f1 18446744073709551615 (by decide) (by omega) wo hrs.eye
            have hEl := Gr.enum_len 18446744073709551615 b1 f1
            obtain ⟨E, hE⟩ : ∃ E, E = Gr.enum 18446744073709551615 b1 f1 := ⟨_, rfl⟩
            have hS2 : Ms.steps (P.take (pos + 1)) ({Ms.zero with kind := ((k + 1 : Nat) : Int)}, b2, f2) = ({m1 with attempt := E.1}, E.2) := by rw [HS1.out, hE]; rfl
            rw [← hE] at hM hEl
            obtain ⟨v, b3, f3⟩ := E
            have HS2 := Lib.hid hS2
            clear hS2 hE
            simp only at hEl
            go_wp2_with (first
              | (go_at_call 17
                 refine hM.mono ?_
                 rintro e w2 ⟨rfl, he2, hg2⟩
                 simp only at he2 ⊢
                 have hr2 := hrs.eyed hg2 he2
                 obtain ⟨A1, c1, A2, c2, hk1, _⟩ := id hr2.msg
                 have x := hk1.cell 7
                 have y := hk1.frozen 7
                 simp [mCells] at x
                 have hr3 := hr2.put (m' := {m1 with attempt := v}) 7 (.int .u64 (v : Int)) rfl rfl rfl (fun _ _ _ _ => rfl)
                 clear hk1))
            go_roundg (gk - 1)
            case measure => omega
            case rel => exact ⟨pos + 1, _, b3, f3, by go_num, by omega, by omega, hr3, HS2, Lib.hid fun hn => HW1.out (not_take hn)⟩
          · have hM := read_any g B0 b1 f1 18446744073709551615 (by decide) (by omega) wo hrs.eye
            have hEl := Gr.enum_len 18446744073709551615 b1 f1
            obtain ⟨E, hE⟩ : ∃ E, E = Gr.enum 18446744073709551615 b1 f1 := ⟨_, rfl⟩
            have hS2 : Ms.steps (P.take (pos + 1)) ({Ms.zero with kind := ((k + 1 : Nat) : Int)}, b2, f2) = ({m1 with stamp := E.1}, E.2) := by rw [HS1.out, hE]; rfl
            rw [← hE] at hM hEl
            obtain ⟨v, b3, f3⟩ := E
            have HS2 := Lib.hid hS2
            clear hS2 hE
            simp only at hEl
            go_wp2_with (first
              | (go_at_call 17
                 refine hM.mono ?_
                 rintro e w2 ⟨rfl, he2, hg2⟩
                 simp only at he2 ⊢
                 have hr2 := hrs.eyed hg2 he2
                 obtain ⟨A1, c1, A2, c2, hk1, _⟩ := id hr2.msg
                 have x := hk1.cell 8
                 have y := hk1.frozen 8
                 simp [mCells] at x
                 have hr3 := hr2.put (m' := {m1 with stamp := v}) 8 (.int .u64 (v : Int)) rfl rfl rfl (fun _ _ _ _ => rfl)
                 clear hk1))
            go_roundg (gk - 1)
            case measure => omega
            case rel => exact ⟨pos + 1, _, b3, f3, by go_num, by omega, by omega, hr3, HS2, Lib.hid fun hn => HW1.out (not_take hn)⟩
          · have hM := rint_any g B0 b1 f1 8300 (by decide) (by omega) wo hrs.eye
            have hEl := Gr.enum_len 8300 b1 f1
            obtain ⟨E, hE⟩ : ∃ E, E = Gr.enum 8300 b1 f1 := ⟨_, rfl⟩
            have hS2 : Ms.steps (P.take (pos + 1)) ({Ms.zero with kind := ((k + 1 : Nat) : Int)}, b2, f2) = ({m1 with offset := E.1}, E.2) := by rw [HS1.out, hE]; rfl
            rw [← hE] at hM hEl
            obtain ⟨v, b3, f3⟩ := E
            have HS2 := Lib.hid hS2
            clear hS2 hE
            simp only at hEl
            go_wp2_with (first
              | (go_at_call 20
                 refine hM.mono ?_
                 rintro e w2 ⟨rfl, he2, hg2⟩
                 simp only at he2 ⊢
                 have hr2 := hrs.eyed hg2 he2
                 obtain ⟨A1, c1, A2, c2, hk1, _⟩ := id hr2.msg
                 have x := hk1.cell 9
                 have y := hk1.frozen 9
                 simp [mCells] at x
                 have hr3 := hr2.put (m' := {m1 with offset := (v : Int)}) 9 (.int .i64 (v : Int)) rfl rfl rfl (fun _ _ _ _ => rfl)
                 clear hk1))
            go_roundg (gk - 1)
            case measure => omega
            case rel => exact ⟨pos + 1, _, b3, f3, by go_num, by omega, by omega, hr3, HS2, Lib.hid fun hn => HW1.out (not_take hn)⟩
          · have hM := rint_any g B0 b1 f1 8300 (by decide) (by omega) wo hrs.eye
            have hEl := Gr.enum_len 8300 b1 f1
            obtain ⟨E, hE⟩ : ∃ E, E = Gr.enum 8300 b1 f1 := ⟨_, rfl⟩
            have hS2 : Ms.steps (P.take (pos + 1)) ({Ms.zero with kind := ((k + 1 : Nat) : Int)}, b2, f2) = ({m1 with total := E.1}, E.2) := by rw [HS1.out, hE]; rfl
            rw [← hE] at hM hEl
            obtain ⟨v, b3, f3⟩ := E
            have HS2 := Lib.hid hS2
            clear hS2 hE
            simp only at hEl
            go_wp2_with (first
              | (go_at_call 20
                 refine hM.mono ?_
                 rintro e w2 ⟨rfl, he2, hg2⟩
                 simp only at he2 ⊢
                 have hr2 := hrs.eyed hg2 he2
                 obtain ⟨A1, c1, A2, c2, hk1, _⟩ := id hr2.msg
                 have x := hk1.cell 10
                 have y := hk1.frozen 10
                 simp [mCells] at x
                 have hr3 := hr2.put (m' := {m1 with total := (v : Int)}) 10 (.int .i64 (v : Int)) rfl rfl rfl (fun _ _ _ _ => rfl)
                 clear hk1))
            go_roundg (gk - 1)
            case measure => omega
            case rel => exact ⟨pos + 1, _, b3, f3, by go_num, by omega, by omega, hr3, HS2, Lib.hid fun hn => HW1.out (not_take hn)⟩
          · have hM := rint_any g B0 b1 f1 4096 (by decide) (by omega) wo hrs.eye
            have hEl := Gr.enum_len 4096 b1 f1
            obtain ⟨E, hE⟩ : ∃ E, E = Gr.enum 4096 b1 f1 := ⟨_, rfl⟩
            have hS2 : Ms.steps (P.take (pos + 1)) ({Ms.zero with kind := ((k + 1 : Nat) : Int)}, b2, f2) = ({m1 with size := E.1}, E.2) := by rw [HS1.out, hE]; rfl
            rw [← hE] at hM hEl
            obtain ⟨v, b3, f3⟩ := E
            have HS2 := Lib.hid hS2
            clear hS2 hE
            simp only at hEl
            go_wp2_with (first
              | (go_at_call 20
                 refine hM.mono ?_
                 rintro e w2 ⟨rfl, he2, hg2⟩
                 simp only at he2 ⊢
                 have hr2 := hrs.eyed hg2 he2
                 obtain ⟨A1, c1, A2, c2, hk1, _⟩ := id hr2.msg
                 have x := hk1.cell 11
                 have y := hk1.frozen 11
                 simp [mCells] at x
                 have hr3 := hr2.put (m' := {m1 with size := (v : Int)}) 11 (.int .i64 (v : Int)) rfl rfl rfl (fun _ _ _ _ => rfl)
                 clear hk1))
            go_roundg (gk - 1)
            case measure => omega
            case rel => exact ⟨pos + 1, _, b3, f3, by go_num, by omega, by omega, hr3, HS2, Lib.hid fun hn => HW1.out (not_take hn)⟩
          · have hM := rint_any g B0 b1 f1 99 (by decide) (by omega) wo hrs.eye
            have hEl := Gr.enum_len 99 b1 f1
            obtain ⟨E, hE⟩ : ∃ E, E = Gr.enum 99 b1 f1 := ⟨_, rfl⟩
            have hS2 : Ms.steps (P.take (pos + 1)) ({Ms.zero with kind := ((k + 1 : Nat) : Int)}, b2, f2) = ({m1 with code := E.1}, E.2) := by rw [HS1.out, hE]; rfl
            rw [← hE] at hM hEl
            obtain ⟨v, b3, f3⟩ := E
            have HS2 := Lib.hid hS2
            clear hS2 hE
            simp only at hEl
            go_wp2_with (first
              | (go_at_call 20
                 refine hM.mono ?_
                 rintro e w2 ⟨rfl, he2, hg2⟩
                 simp only at he2 ⊢
                 have hr2 := hrs.eyed hg2 he2
                 obtain ⟨A1, c1, A2, c2, hk1, _⟩ := id hr2.msg
                 have x := hk1.cell 12
                 have y := hk1.frozen 12
                 simp [mCells] at x
                 have hr3 := hr2.put (m' := {m1 with code := (v : Int)}) 12 (.int .i64 (v : Int)) rfl rfl rfl (fun _ _ _ _ => rfl)
                 clear hk1))
            go_roundg (gk - 1)
            case measure => omega
            case rel => exact ⟨pos + 1, _, b3, f3, by go_num, by omega, by omega, hr3, HS2, Lib.hid fun hn => HW1.out (not_take hn)⟩
          · have hM := rtext_any g B0 b1 f1 200 (by decide) (by omega) wo hrs.eye
            have hEl := Gr.etext_left 200 b1 f1
            obtain ⟨E, hE⟩ : ∃ E, E = Gr.etext 200 b1 f1 := ⟨_, rfl⟩
            have hS2 : Ms.steps (P.take (pos + 1)) ({Ms.zero with kind := ((k + 1 : Nat) : Int)}, b2, f2) = ({m1 with data := E.1}, E.2) := by rw [HS1.out, hE]; rfl
            rw [← hE] at hM hEl
            obtain ⟨d, b3, f3⟩ := E
            have HS2 := Lib.hid hS2
            clear hS2 hE
            simp only at hEl
            go_wp2_with (first
              | (go_at_call 21
                 refine hM.mono ?_
                 rintro e w2 ⟨A3, c3, rfl, hcl, hd, he2, hg2⟩
                 simp only at he2 hd hcl ⊢
                 have hr2 := hrs.eyed hg2 he2
                 obtain ⟨A1, c1, A2, c2, hk1, _⟩ := id hr2.msg
                 have x := hk1.cell 14
                 have y := hk1.frozen 14
                 simp [mCells] at x
                 have hr3 := hr2.putData hd hcl
                 clear hk1))
            go_roundg (gk - 1)
            case measure => omega
            case rel => exact ⟨pos + 1, _, b3, f3, by go_num, by omega, by omega, hr3, HS2, Lib.hid fun hn => HW1.out (not_take hn)⟩
          · have hM := rint_any g B0 b1 f1 8 (by decide) (by omega) wo hrs.eye
            have hEl := Gr.enum_len 8 b1 f1
            have hEm := Gr.enum_le 8 b1 f1
            have hm0 := HW.out (nodup_take (by rw [HP.out.1]; exact (Ms.hasN_alpha (k + 1)).2) HC.out)
            obtain ⟨R2, hR2⟩ : ∃ R2, R2 = Ms.rowsP b1 f1 := ⟨_, rfl⟩
            have hS2 : Ms.steps (P.take (pos + 1)) ({Ms.zero with kind := ((k + 1 : Nat) : Int)}, b2, f2) = ({m1 with rows := R2.1}, R2.2) := by rw [HS1.out, hR2]; rfl
            have hM2 : More R2 [] (Gr.enum 8 b1 f1).1 (Gr.enum 8 b1 f1).2.1 (Gr.enum 8 b1 f1).2.2 := by rw [hR2]; rfl
            obtain ⟨E, hE⟩ : ∃ E, E = Gr.enum 8 b1 f1 := ⟨_, rfl⟩
            rw [← hE] at hM hEl hEm hM2
            obtain ⟨n2, b3, f3⟩ := E
            have HS2 := Lib.hid hS2
            have HM2 := Lib.hid hM2
            clear hS2 hE hM2 hR2
            simp only at hEl hEm
            have hbl3 : b3.length ≤ 140737488355328 := by omega
            have hin := in_take HC.out
            have HIN := Lib.hid hin
            clear hEl hin
            go_wp2_with (first
              | (go_at_call 20
                 refine hM.mono ?_
                 rintro e w2 ⟨rfl, he2, hg2⟩
                 simp only at he2 ⊢
                 have hr2 := hrs.eyed hg2 he2))
            have hr2' : RS w w2 B0 g gm w.heap.size {m1 with rows := []} b3 f3 := by rw [← hm0]; exact hr2
            clear hM hrs he2 hg2 hr2 hm0 hix
            obtain ⟨go, rfl⟩ : ∃ go, go = gk := ⟨_, rfl⟩
            go_loopg [11] n2 (fun r kv wr => ∃ (kk : Nat) (l : List Ms.Rw) (b4 : List UInt8) (f4 : Nat), kv = .int .i64 (kk : Int) ∧ r + kk = n2 ∧ Hid (l.length = kk) ∧ b4.length ≤ 140737488355328 ∧ RS w wr B0 g gm w.heap.size {m1 with rows := l} b4 f4 ∧ Hid (More R2 l r b4 f4))
            case atStart => exact ⟨0, [], b3, f3, rfl, by omega, Lib.hid rfl, hbl3, hr2', HM2⟩
            case round =>
              clear hr2' HM2 hbl3
              obtain ⟨kk, l, b4, f4, rfl, hkk, HL, hb4, hrs, HM⟩ := hrel
              obtain ⟨wi, rfl⟩ : ∃ wi : World, wi = wr := ⟨_, rfl⟩
              by_cases hk2 : gk = 0
              · subst hk2
                have i3 : ¬ ((kk : Int) < (n2 : Int)) := by omega
                go_wp2_with fail
                have hE := HM.out.stop (.inr rfl)
                rw [hE] at HS2
                go_roundg (go - 1)
                case measure => omega
                case rel => exact ⟨pos + 1, _, b4, f4, by go_num, by omega, hb4, hrs, HS2, Lib.hid fun hn => absurd HIN.out hn⟩
              · have i3 : (kk : Int) < (n2 : Int) := by omega
                have q1 := hrs.eye.c1
                have hgl1 := hrs.eye.lt
                by_cases hf : f4 = 0
                · subst hf
                  have hrx := hrs.new (.cells rz 57)
                  have hx := Blk.new wi 57 rz
                  obtain ⟨_, _, _, _, _, hgm1⟩ := hrs.rows rfl
                  obtain ⟨r, rfl⟩ : ∃ r, gk = r + 1 := ⟨gk - 1, by omega⟩
                  have hM2 := HM.out.go
                  have HMG := Lib.hid hM2
                  clear hM2 HM
                  go_wp2_with fail
                  obtain ⟨wx, hwx⟩ : ∃ wx, wx = wi.alloc (.cells rz 57) := ⟨_, rfl⟩
                  rw [← hwx] at hrx hx
                  refine Calls.of_eq hwx ?_
                  obtain ⟨qb, hqb⟩ : ∃ qb, qb = wi.heap.size := ⟨_, rfl⟩
                  have hb0 := hrs.bel.size
                  rw [← hqb] at hrx hx hgl1 hgm1 hb0 ⊢
                  have hq1 : w.heap.size < qb := by have := hrs.o1; omega
                  have hq2 : qb ≠ g := by omega
                  have hq3 : qb ≠ gm := by omega
                  clear hrs hwx hqb q1 hb0
                  have hT := rtext_any g B0 b4 0 96 (by decide) (by omega) wx hrx.eye
                  have hTl := Gr.etext_left 96 b4 0
                  obtain ⟨E, hE⟩ : ∃ E, E = Gr.etext 96 b4 0 := ⟨_, rfl⟩
                  rw [← hE] at hT hTl
                  obtain ⟨v0, b5, f5⟩ := E
                  simp only at hTl
                  have HE0 := Lib.hid hE
                  clear hE
                  refine hT.mono ?_
                  rintro e wy ⟨A3, c3, rfl, hcl, hd, he2, hg2⟩
                  simp only at he2 hd hcl ⊢
                  have hry := hrx.eyed hg2 he2
                  have kc := str_old hd (by have := hry.bel.size; have := hry.o4; omega) c3
                  have hxy := hx.grown hg2 (by intro e; injection e with e; exact hq2 e)
                  have x0 := hxy.cell 0
                  have y0 := hxy.frozen 0
                  simp [rz] at x0
                  have hg3 : wy.grownBy (wy.setCell ⟨qb, 0, none⟩ (.string (strOf v0))) (some qb) := only_setCell (World.grownBy.refl _ _) (.inl rfl) _
                  have hx1 := hxy.set_ 0 (.string (strOf v0))
                  have hrx1 := hry.xset hg3 hq1 hq2 hq3
                  clear hrx hx hry hxy hT he2 hg2 hg3 hd hcl
                  go_wp2_with fail
                  generalize (wy.setCell ⟨qb, 0, none⟩ (.string (strOf v0))) = wx1 at hx1 hrx1 ⊢
                  clear x0 y0 kc
                  have hT := rint_any g B0 b5 f5 2 (by decide) (by omega) wx1 hrx1.eye
                  have hTl := Gr.enum_len 2 b5 f5
                  obtain ⟨E, hE⟩ : ∃ E, E = Gr.enum 2 b5 f5 := ⟨_, rfl⟩
                  rw [← hE] at hT hTl
                  obtain ⟨v1, b6, f6⟩ := E
                  simp only at hTl
                  have HE1 := Lib.hid hE
                  clear hE
                  refine hT.mono ?_
                  rintro e wy ⟨rfl, he2, hg2⟩
                  simp only at he2 ⊢
                  have hry := hrx1.eyed hg2 he2
                  have hxy := hx1.grown hg2 (by intro e; injection e with e; exact hq2 e)
                  have x1 := hxy.cell 1
                  have y1 := hxy.frozen 1
                  simp [rz] at x1
                  have hg3 : wy.grownBy (wy.setCell ⟨qb, 1, none⟩ (.int .i64 (v1 : Int))) (some qb) := only_setCell (World.grownBy.refl _ _) (.inl rfl) _
                  have hx2 := hxy.set_ 1 (.int .i64 (v1 : Int))
                  have hrx2 := hry.xset hg3 hq1 hq2 hq3
                  clear hrx1 hx1 hry hxy hT he2 hg2 hg3
                  go_wp2_with fail
                  generalize (wy.setCell ⟨qb, 1, none⟩ (.int .i64 (v1 : Int))) = wx2 at hx2 hrx2 ⊢
                  clear x1 y1
                  have hT := read_any g B0 b6 f6 18446744073709551615 (by decide) (by omega) wx2 hrx2.eye
                  have hTl := Gr.enum_len 18446744073709551615 b6 f6
                  obtain ⟨E, hE⟩ : ∃ E, E = Gr.enum 18446744073709551615 b6 f6 := ⟨_, rfl⟩
                  rw [← hE] at hT hTl
                  obtain ⟨v2, b7, f7⟩ := E
                  simp only at hTl
                  have HE2 := Lib.hid hE
                  clear hE
                  refine hT.mono ?_
                  rintro e wy ⟨rfl, he2, hg2⟩
                  simp only at he2 ⊢
                  have hry := hrx2.eyed hg2 he2
                  have hxy := hx2.grown hg2 (by intro e; injection e with e; exact hq2 e)
                  have x2 := hxy.cell 2
                  have y2 := hxy.frozen 2
                  simp [rz] at x2
                  have hg3 : wy.grownBy (wy.setCell ⟨qb, 2, none⟩ (.int .u64 (v2 : Int))) (some qb) := only_setCell (World.grownBy.refl _ _) (.inl rfl) _
                  have hx3 := hxy.set_ 2 (.int .u64 (v2 : Int))
                  have hrx3 := hry.xset hg3 hq1 hq2 hq3
                  clear hrx2 hx2 hry hxy hT he2 hg2 hg3
                  go_wp2_with fail
                  generalize (wy.setCell ⟨qb, 2, none⟩ (.int .u64 (v2 : Int))) = wx3 at hx3 hrx3 ⊢
                  clear x2 y2
                  have hT := read_any g B0 b7 f7 18446744073709551615 (by decide) (by omega) wx3 hrx3.eye
                  have hTl := Gr.enum_len 18446744073709551615 b7 f7
                  obtain ⟨E, hE⟩ : ∃ E, E = Gr.enum 18446744073709551615 b7 f7 := ⟨_, rfl⟩
                  rw [← hE] at hT hTl
                  obtain ⟨v3, b8, f8⟩ := E
                  simp only at hTl
                  have HE3 := Lib.hid hE
                  clear hE
                  refine hT.mono ?_
                  rintro e wy ⟨rfl, he2, hg2⟩
                  simp only at he2 ⊢
                  have hry := hrx3.eyed hg2 he2
                  have hxy := hx3.grown hg2 (by intro e; injection e with e; exact hq2 e)
                  have x3 := hxy.cell 3
                  have y3 := hxy.frozen 3
                  simp [rz] at x3
                  have hg3 : wy.grownBy (wy.setCell ⟨qb, 3, none⟩ (.int .u64 (v3 : Int))) (some qb) := only_setCell (World.grownBy.refl _ _) (.inl rfl) _
                  have hx4 := hxy.set_ 3 (.int .u64 (v3 : Int))
                  have hrx4 := hry.xset hg3 hq1 hq2 hq3
                  clear hrx3 hx3 hry hxy hT he2 hg2 hg3
                  go_wp2_with fail
                  generalize (wy.setCell ⟨qb, 3, none⟩ (.int .u64 (v3 : Int))) = wx4 at hx4 hrx4 ⊢
                  clear x3 y3
                  have hT := rint_any g B0 b8 f8 4096 (by decide) (by omega) wx4 hrx4.eye
                  have hTl := Gr.enum_len 4096 b8 f8
                  obtain ⟨E, hE⟩ : ∃ E, E = Gr.enum 4096 b8 f8 := ⟨_, rfl⟩
                  rw [← hE] at hT hTl
                  obtain ⟨v4, b9, f9⟩ := E
                  simp only at hTl
                  have HE4 := Lib.hid hE
                  clear hE
                  refine hT.mono ?_
                  rintro e wy ⟨rfl, he2, hg2⟩
                  simp only at he2 ⊢
                  have hry := hrx4.eyed hg2 he2
                  have hxy := hx4.grown hg2 (by intro e; injection e with e; exact hq2 e)
                  have x4 := hxy.cell 4
                  have y4 := hxy.frozen 4
                  simp [rz] at x4
                  have hg3 : wy.grownBy (wy.setCell ⟨qb, 4, none⟩ (.int .i64 (v4 : Int))) (some qb) := only_setCell (World.grownBy.refl _ _) (.inl rfl) _
                  have hx5 := hxy.set_ 4 (.int .i64 (v4 : Int))
                  have hrx5 := hry.xset hg3 hq1 hq2 hq3
                  clear hrx4 hx4 hry hxy hT he2 hg2 hg3
                  have hrow : (((((rz.setIfInBounds 0 (.string (strOf v0))).setIfInBounds 1 (.int .i64 (v1 : Int))).setIfInBounds 2 (.int .u64 (v2 : Int))).setIfInBounds 3 (.int .u64 (v3 : Int))).setIfInBounds 4 (.int .i64 (v4 : Int))) = (rwCells (rwOf v0 v1 v2 v3 v4)).toArray := rfl
                  rw [hrow] at hx5
                  have HD := Lib.hid (drow_parts HE0.out HE1.out HE2.out HE3.out HE4.out)
                  obtain ⟨A2, c2, z1, z2, z3, z4⟩ := hrx5.rows HL.out
                  have hown := fun o => World.ownsRow.alloc z2 o
                  have hcell := new_cells (wy.setCell ⟨qb, 4, none⟩ (.int .i64 (v4 : Int))) (rwCells (rwOf v0 v1 v2 v3 v4)) 57 wy.heap.size (set_size _ _ _)
                  have hone : ∀ u ∈ rwCells (rwOf v0 v1 v2 v3 v4), u.oneCell' = true := fun u hu => rwCells_one [rwOf v0 v1 v2 v3 v4] u (by simpa using hu)
                  have hqs : ∀ o, w.heap.size ≤ ((wy.setCell ⟨qb, 4, none⟩ (.int .i64 (v4 : Int))).alloc o).heap.size := fun o => Nat.le_trans hrx5.bel.size (alloc_b _ o).size
                  have hrs5 := fun o => hrx5.same (q' := 0) o
                  have HA := Lib.hid (And.intro hown (And.intro hcell (And.intro hone (And.intro hqs hrs5))))
                  have hq4 : (kk + 1) * 48 ≤ 140737488355328 := by omega
                  have hq5 : kk + 1 ≤ maxLen := by unfold maxLen; omega
                  have hx5' : Blk (wy.setCell ⟨qb, 4, none⟩ (.int .i64 (v4 : Int))) qb 57 #[.string (strOf v0), .int .i64 (v1 : Int), .int .u64 (v2 : Int), .int .u64 (v3 : Int), .int .i64 (v4 : Int)] := hx5
                  have HX := Lib.hid hx5'
                  clear hrow hown hcell hone hqs hrs5 hx5 hx5' z2 hrx5 HE0 HE1 HE2 HE3 HE4
                  go_wp2_with (first
                    | (refine wpList_load_blk rfl 57 (.tmp 12) rfl qb rfl 57 _ _ HX.out Try.underlying57 rfl infoR5 ?_)
                    | (at_builtin; refine wpList_appS (by decide) Try.underlying26 infoR rfl rfl (.tmp 153) (.tmp 155) rfl w.heap.size _ _ _ (l.flatMap rwCells) rfl (HA.out.1 _) ⟨wy.heap.size, 0, none⟩ 1 1 (rwCells (rwOf v0 v1 v2 v3 v4)) rfl rfl HA.out.2.1 HA.out.2.2.1 hq4 hq5 (HA.out.2.2.2.1 _) ?_; intro A5 c5 wz hown2 hg2 _; obtain ⟨vz, hz1, hz2⟩ := RS.cell15 (HA.out.2.2.2.2 _) (HA.out.1 _) hg2))
                  have hrf := (HA.out.2.2.2.2 _).app (HA.out.1 _) (l := l ++ [rwOf v0 v1 v2 v3 v4]) (by rw [List.flatMap_append]; simpa using hown2) (by rw [List.length_append, HL.out]; rfl) hg2
                  have hM3 := HMG.out
                  rw [HD.out] at hM3
                  go_roundg r
                  case measure => omega
                  case rel => exact ⟨kk + 1, _, b9, f9, by go_num, by omega, Lib.hid (by rw [List.length_append, HL.out]; rfl), by omega, hrf, Lib.hid hM3⟩
                · have hff : ((f4 : Int) == 0) = false := by rw [beq_eq_false_iff_ne]; omega
                  go_wp2_with fail
                  have hE := HM.out.stop (.inl hf)
                  rw [hE] at HS2
                  go_roundg (go - 1)
                  case measure => omega
                  case rel => exact ⟨pos + 1, _, b4, f4, by go_num, by omega, hb4, hrs, HS2, Lib.hid fun hn => absurd HIN.out hn⟩
  · have i1 : ¬ ((v : Int) ≤ 16) := by omega
    have hv' : ¬ (1 ≤ v ∧ v ≤ 16) := by omega
    have he3 := he2.below (alloc_b w2 (.cells (mCells Ms.zero none 0 none 0) 28))
    have hr3 := hr2.alloc (.cells (mCells Ms.zero none 0 none 0) 28)
    have hbw3 := hbw2.trans ((alloc_b w2 (.cells (mCells Ms.zero none 0 none 0) 28)).mono hbw2.size)
    go_wp2_with fail
    refine (refail_any g B0 b2 f2 2 (by decide) _ he3).mono ?_
    rintro e w4 ⟨rfl, he4, hg4⟩
    have hr4 := hr3.grown hg4 (by intro e; injection e with e; omega)
    have hbw4 := hbw3.grown hg4 hbw3.size (fun k hk => by injection hk; omega)
    obtain ⟨F, hF⟩ : ∃ F, F = Gr.efail 2 b2 f2 := ⟨_, rfl⟩
    rw [← hF] at he4
    have HF := Lib.hid hF
    clear hF he3 hr3 hbw3 hg4
    obtain ⟨b5, f5⟩ := F
    simp only at he4
    have hE := HR.out.1.trans (readP_no HE.out Ms.MAX_lt (hasN_none v hv'))
    rw [← HF.out] at hE
    simp only at hE
    have h0 : Ms.close b5 f5 ≠ 0 := by
      have := Ms.close_bad (b := b2) (f := f2)
      rw [← HF.out] at this
      exact this
    obtain ⟨CL, hCL⟩ : ∃ CL, CL = Ms.close b5 f5 := ⟨_, rfl⟩
    have HE2 := Lib.hid (And.intro hE hCL)
    rw [← hCL] at h0
    clear hE hCL
    go_wp2_with fail
    go_loopg [9] 0 (fun r i wr => i = .int .i64 0 ∧ wr = w4)
    case atStart => exact ⟨rfl, rfl⟩
    case round =>
      obtain ⟨rfl, rfl⟩ := hrel
      go_wp2_with fail
      have hcl := rclose_any g B0 b5 f5 _ he4
      rw [← HE2.out.2] at hcl
      refine hcl.mono ?_
      rintro e w5 ⟨rfl, rfl⟩
      have hff : ((CL : Int) == 0) = false := by rw [beq_eq_false_iff_ne]; omega
      have hff2 : ((CL : Int) != 0) = true := by rw [bne_iff_ne]; omega
      go_wp2_with (refine wpList_store_blk rfl 28 (.tmp 2) (.tmp 162) rfl w.heap.size (mCells Ms.zero none 0 none 0) rfl rfl _ _ hr4 infoM16 rfl (mCells_one _ _ _ _ _) ?_; intro w8 hk8 hg8)
      refine bodyPost_ret (results_row2 Try.results6 _ _ w.heap.size _ _ _ rfl hk8 Try.underlying28 rfl infoM16) rfl ?_
      have hE := HE2.out.1
      rw [← HE2.out.2] at hE
      subst hE
      exact ⟨_, rfl, ⟨none, 0, none, 0, rfl, Dat.nil _ _ _, Nat.le_refl _, RwS.nil _ _ _, Nat.le_refl _⟩, hbw4.grown hg8 hbw4.size (fun j hj => by injection hj; omega)⟩
end Go.Proofs.Ythhhiiagppckhaa
