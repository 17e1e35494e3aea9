/- The walk of the document's Plain; conditions: none beyond its hypotheses. -/
import Derived.Test.YthhhiiagppckhaaGreatDoorMgMw2
set_option linter.unusedSimpArgs false
set_option linter.unusedVariables false
section
namespace Go.Proofs.YthhhiiagppckhaaGreatDoor
open Go.RowKit Go.Proofs.U
set_option linter.unusedVariables false

theorem results_cell1 {P : Program} {fn : Func} {p : Tmp} {ty : TypeId} (h : fn.results = #[.cell p ty]) (tmps : Array Value) (w : World) :
    (results fn tmps).run P w = ((asAddr (tmps.getD p undef)).run P w).andThen fun a w1 => (loadVar ty a).run P w1 := by
  simp only [results, h]
  simp [Sem.run_bind, Result.andThen]
theorem results_row1 {P : Program} {fn : Func} {p : Tmp} {ty : TypeId} (h : fn.results = #[.cell p ty]) (tmps : Array Value) (w : World) (g : Nat) (t : TypeId) (cs : Array Value) (d : TypeDesc)
    (hp : tmps.getD p undef = .pointer (some ⟨g, 0, none⟩)) (hg : Blk w g t cs)
    (hu : P.underlying ty = some d) (hd : d.isRow = true) (hi : (P.info? ty).map (·.size) = some cs.size) :
    (results fn tmps).run P w = .ok (.agg cs) w := by
  rw [results_cell1 h, hp]
  simp only [asAddr, Sem.run_pure, Result.andThen_ok, run_loadVar_row w g t ty cs (0, 0) d hg hu (by cases d <;> simp_all [TypeDesc.isRow]) hi]
/-- the state of Plain: the message, its result, what is filled -/
structure PL (w0 w : World) (mc : Array Value) (x : Ms.Msg) (A : Option Addr) (c : Nat) (A2 : Option Addr) (c2 : Nat) : Prop where
  msg : Blk w w0.heap.size 27 mc
  res : Blk w (w0.heap.size + 1) 27 (mCells Ms.zero none 0 none 0)
  out : Blk w (w0.heap.size + 1 + 1) 27 (mCells x A c A2 c2)
  bel : Below w0.heap.size w0 w
theorem PL.put {w0 w : World} {mc : Array Value} {x x' : Ms.Msg} {v : Value} {i : Nat} {A A' A2 A2' : Option Addr} {c c' c2 c2' : Nat} (h : PL w0 w mc x A c A2 c2) (hc : (mCells x A c A2 c2).setIfInBounds i v = mCells x' A' c' A2' c2') : PL w0 (w.setCell ⟨w0.heap.size + 1 + 1, i, none⟩ v) mc x' A' c' A2' c2' := by
  have hg : w.grownBy (w.setCell ⟨w0.heap.size + 1 + 1, i, none⟩ v) (some (w0.heap.size + 1 + 1)) := only_setCell (World.grownBy.refl _ _) (.inl rfl) _
  have k7 := h.out.set_ i v
  rw [hc] at k7
  exact ⟨h.msg.grown hg (by intro e; injection e with e; omega), h.res.grown hg (by intro e; injection e with e; omega), k7, h.bel.grown hg h.bel.size (fun k hk => by injection hk; omega)⟩
/-- a slice that was taken over, or none -/
def Sel {α : Type} (p : Prop) (A' : Option Addr) (c' : Nat) (d : List α) (A : Option Addr) (c : Nat) (dm : List α) : Prop := (p ∧ A' = A ∧ c' = c ∧ d = dm) ∨ (¬ p ∧ A' = none ∧ c' = 0 ∧ d = [])
theorem Sel.iff {α : Type} {p q : Prop} {A' A : Option Addr} {c' c : Nat} {d dm : List α} (h : Sel p A' c' d A c dm) (hq : q ↔ p) : Sel q A' c' d A c dm := by
  rcases h with ⟨h1, h2⟩ | ⟨h1, h2⟩
  · exact .inl ⟨hq.2 h1, h2⟩
  · exact .inr ⟨fun h => h1 (hq.1 h), h2⟩
theorem mem_take_succ {l : List UInt8} {k : Nat} {c d : UInt8} (h : l[k]? = some c) (hd : d ≠ c) : d ∈ l.take (k + 1) ↔ d ∈ l.take k := by
  rw [List.take_add_one, h, List.mem_append]
  simp [hd]
/-- what Plain answers -/
def plV (m : Ms.Msg) (A : Option Addr) (c : Nat) (A2 : Option Addr) (c2 : Nat) : Value :=
  .agg (mCells (Ms.plain m) (if (100 : UInt8) ∈ Ms.has m.kind then A else none) (if (100 : UInt8) ∈ Ms.has m.kind then c else 0) (if (114 : UInt8) ∈ Ms.has m.kind then A2 else none) (if (114 : UInt8) ∈ Ms.has m.kind then c2 else 0))
theorem Sel.pick {α : Type} {p : Prop} [Decidable p] {A' A : Option Addr} {c' c : Nat} {d dm : List α} (h : Sel p A' c' d A c dm) : A' = (if p then A else none) ∧ c' = (if p then c else 0) ∧ d = (if p then dm else []) := by
  rcases h with ⟨h1, rfl, rfl, rfl⟩ | ⟨h1, rfl, rfl, rfl⟩
  · simp [h1]
  · simp [h1]
theorem plV_msg {w w' : World} {B0 : Nat} {m : Ms.Msg} {A A2 : Option Addr} {c c2 : Nat} (h : MsgV w B0 m (.agg (mCells m A c A2 c2))) (hb : Below w.heap.size w w') (hd : (Ms.plain m).data = if (100 : UInt8) ∈ Ms.has m.kind then m.data else []) (hr : (Ms.plain m).rows = if (114 : UInt8) ∈ Ms.has m.kind then m.rows else []) : MsgV w' B0 (Ms.plain m) (plV m A c A2 c2) := by
  obtain ⟨A', c', B', d', e, h1, h2, h3, h4⟩ := h
  have e1 : (mCells m A c A2 c2)[14]? = (mCells m A' c' B' d')[14]? := by injection e with e; rw [e]
  have e2 : (mCells m A c A2 c2)[15]? = (mCells m A' c' B' d')[15]? := by injection e with e; rw [e]
  simp [mCells] at e1 e2
  obtain ⟨rfl, rfl⟩ := e1
  obtain ⟨rfl, rfl⟩ := e2
  refine ⟨_, _, _, _, rfl, ?_, ?_, ?_, ?_⟩
  · rw [hd]; split
    · exact h1.kept (kept_below hb)
    · exact Dat.nil _ _ _
  · rw [hd]; split
    · exact h2
    · exact Nat.le_refl _
  · rw [hr]; split
    · exact h3.kept (kept_below hb)
    · exact RwS.nil _ _ _
  · rw [hr]; split
    · exact h4
    · exact Nat.le_refl _
set_option maxRecDepth 100000 in
set_option maxHeartbeats 8000000 in
theorem rplain_any (B0 : Nat) (m : Ms.Msg) (A : Option Addr) (c : Nat) (A2 : Option Addr) (c2 : Nat) (w : World) (h : MsgV w B0 m (.agg (mCells m A c A2 c2))) :
    Calls Tryz.prog 10 #[.agg (mCells m A c A2 c2)] w fun e w' => e = .returned (plV m A c A2 c2) ∧ MsgV w' B0 (Ms.plain m) (plV m A c A2 c2) ∧ Below w.heap.size w w' := by
  have hvv := fun w' (hb : Below w.heap.size w w') => plV_msg (w' := w') h hb
  unfold plV at hvv ⊢
  obtain ⟨R, hR⟩ : ∃ R, R = Ms.plain m := ⟨_, rfl⟩
  rw [← hR] at hvv ⊢
  obtain ⟨P, hP⟩ : ∃ P, P = Ms.has m.kind := ⟨_, rfl⟩
  have hPl : P.length ≤ 10 := by rw [hP]; exact hasN_short _
  have hPa : ∀ c ∈ P, c ∈ Ms.alpha := by rw [hP]; exact (Ms.hasN_alpha _).1
  have hhas := fun W => rhas_any m.kind W
  unfold Ms.plain at hR
  rw [← hP] at hR hhas hvv ⊢
  obtain ⟨V, hV⟩ : ∃ V, V = Value.agg (mCells R (if (100 : UInt8) ∈ P then A else none) (if (100 : UInt8) ∈ P then c else 0) (if (114 : UInt8) ∈ P then A2 else none) (if (114 : UInt8) ∈ P then c2 else 0)) := ⟨_, rfl⟩
  rw [← hV] at hvv ⊢
  have HVV := Lib.hid (And.intro hvv hV)
  clear hvv h hV
  have HR := Lib.hid (And.intro hR hPa)
  clear hR hP hPa
  have hw1 : ∃ w1, w1 = ((w.alloc (.cells (mCells m A c A2 c2) 27)).alloc (.cells (mCells Ms.zero none 0 none 0) 27)).alloc (.cells (mCells Ms.zero none 0 none 0) 27) := ⟨_, rfl⟩
  have hal1 := alloc_b w (.cells (mCells m A c A2 c2) 27)
  have hal2 := alloc_b (w.alloc (.cells (mCells m A c A2 c2) 27)) (.cells (mCells Ms.zero none 0 none 0) 27)
  have hal3 := alloc_b ((w.alloc (.cells (mCells m A c A2 c2) 27)).alloc (.cells (mCells Ms.zero none 0 none 0) 27)) (.cells (mCells Ms.zero none 0 none 0) 27)
  have hb1 := (hal1.trans (hal2.mono hal1.size)).trans (hal3.mono (Nat.le_trans hal1.size hal2.size))
  have hk1 := ((Blk.new w 27 (mCells m A c A2 c2)).alloc (.cells (mCells Ms.zero none 0 none 0) 27)).alloc (.cells (mCells Ms.zero none 0 none 0) 27)
  have hk2 := (blk_second w (.cells (mCells m A c A2 c2) 27) 27 (mCells Ms.zero none 0 none 0)).alloc (.cells (mCells Ms.zero none 0 none 0) 27)
  have hk3 := Blk.new ((w.alloc (.cells (mCells m A c A2 c2) 27)).alloc (.cells (mCells Ms.zero none 0 none 0) 27)) 27 (mCells Ms.zero none 0 none 0)
  rw [World.size_alloc, World.size_alloc] at hk3
  clear hal1 hal2 hal3
  obtain ⟨w1, hw1⟩ := hw1
  rw [← hw1] at hb1 hk1 hk2 hk3
  have hps1 : PL w w1 (mCells m A c A2 c2) Ms.zero none 0 none 0 := ⟨hk1, hk2, hk3, hb1⟩
  simp only [mCells] at hk1 hw1 ⊢
  go_enter Tryz.func10, Tryz.ntmps10
  go_wp2_with fail
  refine Calls.of_eq hw1 ?_
  refine (hhas _).mono ?_
  rintro e wq ⟨rfl, hwq⟩
  have hwq2 := hwq.symm
  clear hwq
  subst hwq2
  clear hhas hb1 hk1 hw1
  have hx0 := hps1.msg.cell 0
  simp [mCells] at hx0
  by_cases h0 : P = []
  · subst h0
    have hPe : ([] : List UInt8).isEmpty = true := rfl
    have HK3 := Lib.hid hk3
    go_wp2_with (first
      | (refine wpList_load_blk rfl 27 (.tmp 3) rfl (w.heap.size + 1 + 1) rfl 27 _ _ HK3.out Tryz.underlying27 rfl infoM16 ?_)
      | (refine wpList_store_blk rfl 27 (.tmp 2) (.tmp 11) rfl (w.heap.size + 1) _ rfl rfl _ _ hk2 infoM16 rfl (mCells_one _ _ _ _ _) ?_; intro w8 hk8 hg8))
    refine bodyPost_ret (results_row1 Tryz.results10 _ _ (w.heap.size + 1) _ _ _ rfl hk8 Tryz.underlying27 rfl infoM16) rfl ?_
    have hE := HR.out.1
    rw [if_pos (by simp)] at hE
    subst hE
    have hbf := hps1.bel.grown hg8 hps1.bel.size (fun j hj => by injection hj; omega)
    exact ⟨by rw [HVV.out.2]; simp, HVV.out.1 _ hbf rfl rfl, hbf⟩
  · have hPe : P.isEmpty = false := by simpa using h0
    have H0 := Lib.hid h0
    have hsz := Lib.hid (str_size P)
    clear h0
    have z1 := hps1.out.cell 0
    have z2 := hps1.out.frozen 0
    simp [mCells] at z1
    have hps2 := hps1.put (x' := {Ms.zero with kind := m.kind}) (i := 0) (v := .int .i64 m.kind) (A' := none) (c' := 0) (A2' := none) (c2' := 0) rfl
    clear hps1 hk2 hk3
    go_wp2_with fail
    go_loopg [5] P.length (fun r i wr => ∃ (pos : Nat) (A' : Option Addr) (c' : Nat) (B' : Option Addr) (d' : Nat), i = .int .i64 (pos : Int) ∧ r + pos = P.length ∧ PL w wr (mCells m A c A2 c2) (Ms.psteps (P.take pos) m {Ms.zero with kind := m.kind}) A' c' B' d' ∧ Hid (Sel ((100 : UInt8) ∈ P.take pos) A' c' (Ms.psteps (P.take pos) m {Ms.zero with kind := m.kind}).data A c m.data) ∧ Hid (Sel ((114 : UInt8) ∈ P.take pos) B' d' (Ms.psteps (P.take pos) m {Ms.zero with kind := m.kind}).rows A2 c2 m.rows))
    case atStart => exact ⟨0, none, 0, none, 0, rfl, by omega, hps2, Lib.hid (.inr ⟨by simp, rfl, rfl, rfl⟩), Lib.hid (.inr ⟨by simp, rfl, rfl, rfl⟩)⟩
    case round =>
      clear hps2 z1 z2 hx0
      obtain ⟨pos, A', c', B', d', rfl, hpos, hps, HS1, HS2⟩ := hrel
      obtain ⟨wo, rfl⟩ : ∃ wo : World, wo = wr := ⟨_, rfl⟩
      have hPs := hsz.out
      by_cases hk : gk = 0
      · subst hk
        have i2 : ¬ ((pos : Int) < ((strOf P).size : Int)) := by omega
        have hE := HR.out.1
        rw [if_neg H0.out] at hE
        have hps' := hps
        have hs1 := HS1.out
        have hs2 := HS2.out
        rw [List.take_of_length_le (by omega), ← hE] at hps' hs1 hs2
        obtain ⟨e1, e2, e3⟩ := hs1.pick
        obtain ⟨e4, e5, e6⟩ := hs2.pick
        have hVe : V = .agg (mCells R A' c' B' d') := by rw [HVV.out.2, ← e1, ← e2, ← e4, ← e5]
        have HVE := Lib.hid hVe
        clear hVe
        have hr8 := hps'.res
        have hb8 := hps'.bel
        have HK := Lib.hid hps'.out
        have HE36 := Lib.hid (And.intro e3 e6)
        clear hs1 hs2 e1 e2 e3 e4 e5 e6
        clear hE hps' hps
        go_wp2_with (first
          | (refine wpList_load_blk rfl 27 (.tmp 3) rfl (w.heap.size + 1 + 1) rfl 27 _ _ HK.out Tryz.underlying27 rfl infoM16 ?_)
          | (refine wpList_store_blk rfl 27 (.tmp 2) (.tmp 99) rfl (w.heap.size + 1) _ rfl rfl _ _ hr8 infoM16 rfl (mCells_one _ _ _ _ _) ?_; intro w8 hk8 hg8))
        refine bodyPost_ret (results_row1 Tryz.results10 _ _ (w.heap.size + 1) _ _ _ rfl hk8 Tryz.underlying27 rfl infoM16) rfl ?_
        have hbf := hb8.grown hg8 hb8.size (fun j hj => by injection hj; omega)
        exact ⟨by rw [HVE.out], HVV.out.1 _ hbf HE36.out.1 HE36.out.2, hbf⟩
      · obtain ⟨cc, hcc⟩ : ∃ cc, P[pos]? = some cc := ⟨_, List.getElem?_eq_getElem (by omega)⟩
        have hca := HR.out.2 cc (List.mem_of_getElem? hcc)
        have hix : ∀ W, (Instr.index 9 (.string (strOf P)) (.int .i64 (pos : Int))).run Tryz.prog W = .ok (.int .u8 (cc.toNat : Int)) W := fun W => idx_at hcc
        have i2 : (pos : Int) < ((strOf P).size : Int) := by omega
        have hst := Ms.psteps_take P pos cc m {Ms.zero with kind := m.kind} hcc
        obtain ⟨x, hx⟩ : ∃ x, x = Ms.psteps (P.take pos) m {Ms.zero with kind := m.kind} := ⟨_, rfl⟩
        have hs1 := HS1.out
        have hs2 := HS2.out
        rw [← hx] at hst hps hs1 hs2
        have HST := Lib.hid hst
        have HSS := Lib.hid (And.intro hs1 (And.intro hs2 hcc))
        clear hs1 hs2 HS1 HS2
        have hm := hps.msg
        clear hst hx hcc hPs
        simp only [Ms.alpha, List.mem_cons, List.not_mem_nil, or_false] at hca
        rcases hca with rfl | rfl | rfl | rfl | rfl | rfl | rfl | rfl | rfl | rfl | rfl | rfl | rfl | rfl | rfl
        · have y := hm.cell 3
          simp [mCells] at y
          have z1 := hps.out.cell 3
          have z2 := hps.out.frozen 3
          simp [mCells] at z1
          have hps3 := hps.put (x' := {x with proto := m.proto}) (i := 3) (v := .int .i64 m.proto) (A' := A') (c' := c') (A2' := B') (c2' := d') rfl
          go_wp2_with fail
          go_roundg (gk - 1)
          case measure => omega
          case rel => exact ⟨pos + 1, A', c', B', d', by go_num, by omega, by rw [HST.out]; exact hps3, Lib.hid (by rw [HST.out]; exact (HSS.out.1.iff (mem_take_succ HSS.out.2.2 (by decide)))), Lib.hid (by rw [HST.out]; exact (HSS.out.2.1.iff (mem_take_succ HSS.out.2.2 (by decide))))⟩
        · have y := hm.cell 1
          simp [mCells] at y
          have z1 := hps.out.cell 1
          have z2 := hps.out.frozen 1
          simp [mCells] at z1
          have hps3 := hps.put (x' := {x with session := m.session}) (i := 1) (v := .int .u64 (m.session : Int)) (A' := A') (c' := c') (A2' := B') (c2' := d') rfl
          go_wp2_with fail
          go_roundg (gk - 1)
          case measure => omega
          case rel => exact ⟨pos + 1, A', c', B', d', by go_num, by omega, by rw [HST.out]; exact hps3, Lib.hid (by rw [HST.out]; exact (HSS.out.1.iff (mem_take_succ HSS.out.2.2 (by decide)))), Lib.hid (by rw [HST.out]; exact (HSS.out.2.1.iff (mem_take_succ HSS.out.2.2 (by decide))))⟩
        · have y := hm.cell 2
          simp [mCells] at y
          have z1 := hps.out.cell 2
          have z2 := hps.out.frozen 2
          simp [mCells] at z1
          have hps3 := hps.put (x' := {x with n := m.n}) (i := 2) (v := .int .u64 (m.n : Int)) (A' := A') (c' := c') (A2' := B') (c2' := d') rfl
          go_wp2_with fail
          go_roundg (gk - 1)
          case measure => omega
          case rel => exact ⟨pos + 1, A', c', B', d', by go_num, by omega, by rw [HST.out]; exact hps3, Lib.hid (by rw [HST.out]; exact (HSS.out.1.iff (mem_take_succ HSS.out.2.2 (by decide)))), Lib.hid (by rw [HST.out]; exact (HSS.out.2.1.iff (mem_take_succ HSS.out.2.2 (by decide))))⟩
        · have y := hm.cell 13
          simp [mCells] at y
          have z1 := hps.out.cell 13
          have z2 := hps.out.frozen 13
          simp [mCells] at z1
          have hps3 := hps.put (x' := {x with flag := m.flag}) (i := 13) (v := .bool m.flag) (A' := A') (c' := c') (A2' := B') (c2' := d') rfl
          go_wp2_with fail
          go_roundg (gk - 1)
          case measure => omega
          case rel => exact ⟨pos + 1, A', c', B', d', by go_num, by omega, by rw [HST.out]; exact hps3, Lib.hid (by rw [HST.out]; exact (HSS.out.1.iff (mem_take_succ HSS.out.2.2 (by decide)))), Lib.hid (by rw [HST.out]; exact (HSS.out.2.1.iff (mem_take_succ HSS.out.2.2 (by decide))))⟩
        · have y := hm.cell 4
          simp [mCells] at y
          have z1 := hps.out.cell 4
          have z2 := hps.out.frozen 4
          simp [mCells] at z1
          have hps3 := hps.put (x' := {x with path := m.path}) (i := 4) (v := .string (strOf m.path)) (A' := A') (c' := c') (A2' := B') (c2' := d') rfl
          go_wp2_with fail
          go_roundg (gk - 1)
          case measure => omega
          case rel => exact ⟨pos + 1, A', c', B', d', by go_num, by omega, by rw [HST.out]; exact hps3, Lib.hid (by rw [HST.out]; exact (HSS.out.1.iff (mem_take_succ HSS.out.2.2 (by decide)))), Lib.hid (by rw [HST.out]; exact (HSS.out.2.1.iff (mem_take_succ HSS.out.2.2 (by decide))))⟩
        · have y := hm.cell 5
          simp [mCells] at y
          have z1 := hps.out.cell 5
          have z2 := hps.out.frozen 5
          simp [mCells] at z1
          have hps3 := hps.put (x' := {x with what := m.what}) (i := 5) (v := .int .i64 m.what) (A' := A') (c' := c') (A2' := B') (c2' := d') rfl
          go_wp2_with fail
          go_roundg (gk - 1)
          case measure => omega
          case rel => exact ⟨pos + 1, A', c', B', d', by go_num, by omega, by rw [HST.out]; exact hps3, Lib.hid (by rw [HST.out]; exact (HSS.out.1.iff (mem_take_succ HSS.out.2.2 (by decide)))), Lib.hid (by rw [HST.out]; exact (HSS.out.2.1.iff (mem_take_succ HSS.out.2.2 (by decide))))⟩
        · have y := hm.cell 6
          simp [mCells] at y
          have z1 := hps.out.cell 6
          have z2 := hps.out.frozen 6
          simp [mCells] at z1
          have hps3 := hps.put (x' := {x with version := m.version}) (i := 6) (v := .int .u64 (m.version : Int)) (A' := A') (c' := c') (A2' := B') (c2' := d') rfl
          go_wp2_with fail
          go_roundg (gk - 1)
          case measure => omega
          case rel => exact ⟨pos + 1, A', c', B', d', by go_num, by omega, by rw [HST.out]; exact hps3, Lib.hid (by rw [HST.out]; exact (HSS.out.1.iff (mem_take_succ HSS.out.2.2 (by decide)))), Lib.hid (by rw [HST.out]; exact (HSS.out.2.1.iff (mem_take_succ HSS.out.2.2 (by decide))))⟩
        · have y := hm.cell 7
          simp [mCells] at y
          have z1 := hps.out.cell 7
          have z2 := hps.out.frozen 7
          simp [mCells] at z1
          have hps3 := hps.put (x' := {x with attempt := m.attempt}) (i := 7) (v := .int .u64 (m.attempt : Int)) (A' := A') (c' := c') (A2' := B') (c2' := d') rfl
          go_wp2_with fail
          go_roundg (gk - 1)
          case measure => omega
          case rel => exact ⟨pos + 1, A', c', B', d', by go_num, by omega, by rw [HST.out]; exact hps3, Lib.hid (by rw [HST.out]; exact (HSS.out.1.iff (mem_take_succ HSS.out.2.2 (by decide)))), Lib.hid (by rw [HST.out]; exact (HSS.out.2.1.iff (mem_take_succ HSS.out.2.2 (by decide))))⟩
        · have y := hm.cell 8
          simp [mCells] at y
          have z1 := hps.out.cell 8
          have z2 := hps.out.frozen 8
          simp [mCells] at z1
          have hps3 := hps.put (x' := {x with stamp := m.stamp}) (i := 8) (v := .int .u64 (m.stamp : Int)) (A' := A') (c' := c') (A2' := B') (c2' := d') rfl
          go_wp2_with fail
          go_roundg (gk - 1)
          case measure => omega
          case rel => exact ⟨pos + 1, A', c', B', d', by go_num, by omega, by rw [HST.out]; exact hps3, Lib.hid (by rw [HST.out]; exact (HSS.out.1.iff (mem_take_succ HSS.out.2.2 (by decide)))), Lib.hid (by rw [HST.out]; exact (HSS.out.2.1.iff (mem_take_succ HSS.out.2.2 (by decide))))⟩
        · have y := hm.cell 9
          simp [mCells] at y
          have z1 := hps.out.cell 9
          have z2 := hps.out.frozen 9
          simp [mCells] at z1
          have hps3 := hps.put (x' := {x with offset := m.offset}) (i := 9) (v := .int .i64 m.offset) (A' := A') (c' := c') (A2' := B') (c2' := d') rfl
          go_wp2_with fail
          go_roundg (gk - 1)
          case measure => omega
          case rel => exact ⟨pos + 1, A', c', B', d', by go_num, by omega, by rw [HST.out]; exact hps3, Lib.hid (by rw [HST.out]; exact (HSS.out.1.iff (mem_take_succ HSS.out.2.2 (by decide)))), Lib.hid (by rw [HST.out]; exact (HSS.out.2.1.iff (mem_take_succ HSS.out.2.2 (by decide))))⟩
        · have y := hm.cell 10
          simp [mCells] at y
          have z1 := hps.out.cell 10
          have z2 := hps.out.frozen 10
          simp [mCells] at z1
          have hps3 := hps.put (x' := {x with total := m.total}) (i := 10) (v := .int .i64 m.total) (A' := A') (c' := c') (A2' := B') (c2' := d') rfl
          go_wp2_with fail
          go_roundg (gk - 1)
          case measure => omega
          case rel => exact ⟨pos + 1, A', c', B', d', by go_num, by omega, by rw [HST.out]; exact hps3, Lib.hid (by rw [HST.out]; exact (HSS.out.1.iff (mem_take_succ HSS.out.2.2 (by decide)))), Lib.hid (by rw [HST.out]; exact (HSS.out.2.1.iff (mem_take_succ HSS.out.2.2 (by decide))))⟩
        · have y := hm.cell 11
          simp [mCells] at y
          have z1 := hps.out.cell 11
          have z2 := hps.out.frozen 11
          simp [mCells] at z1
          have hps3 := hps.put (x' := {x with size := m.size}) (i := 11) (v := .int .i64 m.size) (A' := A') (c' := c') (A2' := B') (c2' := d') rfl
          go_wp2_with fail
          go_roundg (gk - 1)
          case measure => omega
          case rel => exact ⟨pos + 1, A', c', B', d', by go_num, by omega, by rw [HST.out]; exact hps3, Lib.hid (by rw [HST.out]; exact (HSS.out.1.iff (mem_take_succ HSS.out.2.2 (by decide)))), Lib.hid (by rw [HST.out]; exact (HSS.out.2.1.iff (mem_take_succ HSS.out.2.2 (by decide))))⟩
        · have y := hm.cell 12
          simp [mCells] at y
          have z1 := hps.out.cell 12
          have z2 := hps.out.frozen 12
          simp [mCells] at z1
          have hps3 := hps.put (x' := {x with code := m.code}) (i := 12) (v := .int .i64 m.code) (A' := A') (c' := c') (A2' := B') (c2' := d') rfl
          go_wp2_with fail
          go_roundg (gk - 1)
          case measure => omega
          case rel => exact ⟨pos + 1, A', c', B', d', by go_num, by omega, by rw [HST.out]; exact hps3, Lib.hid (by rw [HST.out]; exact (HSS.out.1.iff (mem_take_succ HSS.out.2.2 (by decide)))), Lib.hid (by rw [HST.out]; exact (HSS.out.2.1.iff (mem_take_succ HSS.out.2.2 (by decide))))⟩
        · have y := hm.cell 14
          simp [mCells] at y
          have z1 := hps.out.cell 14
          have z2 := hps.out.frozen 14
          simp [mCells] at z1
          have hps3 := hps.put (x' := {x with data := m.data}) (i := 14) (v := .slice A m.data.length c) (A' := A) (c' := c) (A2' := B') (c2' := d') rfl
          go_wp2_with fail
          go_roundg (gk - 1)
          case measure => omega
          case rel => exact ⟨pos + 1, A, c, B', d', by go_num, by omega, by rw [HST.out]; exact hps3, Lib.hid (by rw [HST.out]; exact (.inl ⟨in_take HSS.out.2.2, rfl, rfl, rfl⟩)), Lib.hid (by rw [HST.out]; exact (HSS.out.2.1.iff (mem_take_succ HSS.out.2.2 (by decide))))⟩
        · have y := hm.cell 15
          simp [mCells] at y
          have z1 := hps.out.cell 15
          have z2 := hps.out.frozen 15
          simp [mCells] at z1
          have hps3 := hps.put (x' := {x with rows := m.rows}) (i := 15) (v := .slice A2 m.rows.length c2) (A' := A') (c' := c') (A2' := A2) (c2' := c2) rfl
          go_wp2_with fail
          go_roundg (gk - 1)
          case measure => omega
          case rel => exact ⟨pos + 1, A', c', A2, c2, by go_num, by omega, by rw [HST.out]; exact hps3, Lib.hid (by rw [HST.out]; exact (HSS.out.1.iff (mem_take_succ HSS.out.2.2 (by decide)))), Lib.hid (by rw [HST.out]; exact (.inl ⟨in_take HSS.out.2.2, rfl, rfl, rfl⟩))⟩
end Go.Proofs.YthhhiiagppckhaaGreatDoor
end
