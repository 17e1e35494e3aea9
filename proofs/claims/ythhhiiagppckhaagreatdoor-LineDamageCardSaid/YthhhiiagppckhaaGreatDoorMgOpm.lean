/- Opening a statement's argument: a message; conditions: none beyond their hypotheses. -/
import Derived.Test.YthhhiiagppckhaaGreatDoorMgOp
import Derived.Test.YthhhiiagppckhaaGreatDoorMgMs13
import Derived.Deep.Slices
import Derived.Deep.Fields
import Derived.ChangeSame
set_option linter.unusedSimpArgs false
set_option linter.unusedVariables false
section
namespace Go.Proofs.YthhhiiagppckhaaGreatDoor
open Go.ChangeShapes Go.WideShapes Go.ChangeAt Go.RowKit Go.Deep Go.Proofs.U
set_option linter.unusedVariables false
section
variable {H : Type} {enc : TypeId × Value → H} {W : World} {b0 : Nat}
theorem mstr_data (s : ByteArray) : U.strOf s.data.toList = s := by
  unfold U.strOf; cases s; simp
theorem mfield_str {P : Program} {t : TypeId} (ht : P.underlying t = some .string) {fuel : Nat} {v : Value} {y : DataW H × List MemPlace} (hf : DataW.trod enc P W 0 (fun _ => true) true fuel t [v] = some y) (hsz : ∀ n ∈ y.1.weights P t, n ≤ reachBytes) :
    ∃ s : List UInt8, v = .string (U.strOf s) ∧ s.length ≤ 140737488355328 := by
  obtain ⟨s', h, hx, hs⟩ := DataW.trod_string ht hf
  simp only [List.cons.injEq, and_true] at h
  refine ⟨s'.data.toList, by rw [h, mstr_data], ?_⟩
  have hd := congrArg Prod.fst hx
  simp only at hd
  have := hsz s'.data.toList.length (by rw [hd]; simp only [DataW.weights, List.mem_singleton])
  have hre : reachBytes < 2 ^ 47 := reachBytes_lt
  omega
theorem mfield_bs {P : Program} {t e : TypeId} (ht : P.underlying t = some (.slice e)) (he : P.underlying e = some (.int .u8)) (hc : P.cellsOf e = 1) (hby : P.bytesOf e = 1) {fuel : Nat} {v : Value} {y : DataW H × List MemPlace}
    (hf : DataW.trod enc P W 0 (fun _ => true) true fuel t [v] = some y) (hsz : ∀ n ∈ y.1.weights P t, n ≤ reachBytes) :
    ∃ A n c bs, v = .slice A n c ∧ BS W W.heap.size A n bs ∧ n ≤ c ∧ n ≤ 140737488355328 := by
  rcases open_ints ht he hc hf with ⟨hcs, hx⟩ | ⟨a, len, cap, zs, hcs, _, hl, hm, hz, hx, hcell, hwz⟩
  · simp only [List.cons.injEq, and_true] at hcs
    exact ⟨none, 0, 0, [], hcs, BS.nil _ _ _, Nat.le_refl _, by simp⟩
  · simp only [List.cons.injEq, and_true] at hcs
    simp only [if_true] at hz
    have hle : len ≤ 140737488355328 := by
      have hd := congrArg Prod.fst hx
      simp only at hd
      have := hsz ((len + (cap - len)) * P.bytesOf e) (by
        rw [hd]
        simp only [DataW.weights, ht]
        have : ((lits (H := H) .u8 (zs.take len)).length + (lits (H := H) .u8 (zs.drop len)).length) = len + (cap - len) := by simp [lits, hz]; omega
        rw [this]; exact List.mem_cons_self)
      rw [hby] at this
      have hre : reachBytes < 2 ^ 47 := reachBytes_lt
      omega
    refine ⟨_, _, _, (zs.take len).map fun x => UInt8.ofNat x.toNat, hcs, ⟨by simp; omega, fun hn => ?_⟩, hl, hle⟩
    have hcell0 := hcell 0 (by omega)
    obtain ⟨b, off, spot⟩ := a
    have hspot : spot = none := by simpa [Addr.add] using World.cell?_spot hcell0
    subst hspot
    have hcell' : ∀ i, i < zs.length → W.cell? ⟨b, off + i, none⟩ = some (.int .u8 (zs.getD i 0)) := fun i hi => by rw [← addr_add]; exact hcell i hi
    refine ⟨b, off, rfl, World.block_lt_of_cell? W _ (hcell' 0 (by omega)), fun j hj => ?_⟩
    have hj2 : j < zs.length := by simp at hj; omega
    rw [hcell' j hj2]
    have hmem : zs[j] ∈ zs := List.getElem_mem hj2
    have hbd := u8_bound (hwz _ hmem)
    simp [List.getD, hj2]
    omega
theorem u64_nat {z : Int} (h : (Lit.int .u64 z).wf = true) : ∃ n : Nat, z = (n : Int) ∧ n < 18446744073709551616 := by
  have h1 : IntKind.u64.min = 0 := rfl
  have h2 : IntKind.u64.max = 18446744073709551615 := rfl
  simp only [Lit.wf, Bool.and_eq_true, decide_eq_true_eq] at h
  exact ⟨z.toNat, by omega, by omega⟩
set_option maxRecDepth 100000 in
/-- a field of rows -/
theorem mfield_rows {fuel : Nat} {v : Value} {y : DataW H × List MemPlace}
    (hf : DataW.trod enc Tryz.prog W 0 (fun _ => true) true fuel 25 [v] = some y) (hsz : ∀ n ∈ y.1.weights Tryz.prog 25, n ≤ reachBytes) :
    ∃ A n c l, v = .slice A n c ∧ RwS W W.heap.size A l ∧ l.length = n ∧ n ≤ c ∧ n ≤ 140737488355328 ∧ ∀ x ∈ l, (x.version < 18446744073709551616 ∧ x.stamp < 18446744073709551616) ∧ x.path.length ≤ 140737488355328 := by
  have hC : Tryz.prog.cellsOf 52 = 5 := by kernel_rfl
  have hY : Tryz.prog.bytesOf 52 = 48 := by kernel_rfl
  rcases open_slice Tryz.underlying25 hf with ⟨hcs, hx⟩ | ⟨a, len, cap, m, n, D, Pl, hcs, _, hl, hm, hmm, hx, hi⟩
  · simp only [List.cons.injEq, and_true] at hcs
    exact ⟨none, 0, 0, [], hcs, RwS.nil _ _ _, rfl, Nat.le_refl _, by simp, by simp⟩
  · simp only [List.cons.injEq, and_true] at hcs
    simp only [if_true] at hmm
    subst hmm
    have hd := congrArg Prod.fst hx
    simp only at hd
    have hle : len ≤ 140737488355328 := by
      have := hsz ((len + (m - len)) * Tryz.prog.bytesOf 52) (by
        rw [hd]
        simp only [DataW.weights, Tryz.underlying25]
        simp only [List.length_map, List.length_range]
        exact List.mem_cons_self)
      rw [hY] at this
      have hre : reachBytes < 2 ^ 47 := reachBytes_lt
      omega
    have key : ∀ i, i < len → ∃ (x : Ms.Rw), (∀ (j : Nat) v, (rwCells x)[j]? = some v → W.cell? (a.add (i * 5 + j)) = some v) ∧ (x.version < 18446744073709551616 ∧ x.stamp < 18446744073709551616) ∧ x.path.length ≤ 140737488355328 := by
      intro i hil
      obtain ⟨cs', hc, ht'⟩ := hi i (by omega)
      rw [hC] at hc
      have hsi : ∀ n ∈ (D i).weights Tryz.prog 52, n ≤ reachBytes := fun n hn => hsz n (by
        rw [hd]
        simp only [DataW.weights, Tryz.underlying25, List.mem_cons, List.mem_append]
        exact .inr (.inl (weightsAll_mem (j := i) (by simp [hil]) n hn)))
      obtain ⟨ys, n', hn', hy, hlen, hyl, hfl⟩ := DataW.trod_struct Tryz.underlying52 ht'
      obtain ⟨_, hcl, hat⟩ := World.cells?_some hc
      simp only [Prod.mk.injEq] at hy
      have w3 : (Tryz.prog.cellsOf 3) = 1 := by kernel_rfl
      have w9 : (Tryz.prog.cellsOf 9) = 1 := by kernel_rfl
      have w22 : (Tryz.prog.cellsOf 22) = 1 := by kernel_rfl
      match cs', hcl, ys, hyl with
      | [v0, v1, v2, v3, v4], _, [y0, y1, y2, y3, y4], _ =>
        have a0 := hat 0 (by omega)
        have a1 := hat 1 (by omega)
        have a2 := hat 2 (by omega)
        have a3 := hat 3 (by omega)
        have a4 := hat 4 (by omega)
        have g0 := hfl 0 _ rfl
        have g1 := hfl 1 _ rfl
        have g2 := hfl 2 _ rfl
        have g3 := hfl 3 _ rfl
        have g4 := hfl 4 _ rfl
        simp [w9] at g0
        simp [w3] at g1 g4
        simp [w22] at g2 g3
        obtain ⟨s0, rfl, l0⟩ := mfield_str Tryz.underlying9 g0 (fun n hn => hsi n (by
          rw [hy.1]
          simp only [DataW.weights, Tryz.underlying52]
          exact DataW.weights_mem_each (j := 0) (t := 9) rfl rfl n hn))
        obtain ⟨z1, e1, _, wf1⟩ := DataW.trod_int Tryz.underlying3 g1
        obtain ⟨z2, e2, _, wf2⟩ := DataW.trod_int Tryz.underlying22 g2
        obtain ⟨z3, e3, _, wf3⟩ := DataW.trod_int Tryz.underlying22 g3
        obtain ⟨z4, e4, _, wf4⟩ := DataW.trod_int Tryz.underlying3 g4
        simp only [List.cons.injEq, and_true] at e1 e2 e3 e4
        obtain ⟨n2, rfl, hn2⟩ := u64_nat wf2
        obtain ⟨n3, rfl, hn3⟩ := u64_nat wf3
        subst e1 e2 e3 e4
        simp only [Go.Deep.add_add] at a0 a1 a2 a3 a4
        refine ⟨⟨s0, z1, n2, n3, z4⟩, ?_, ⟨hn2, hn3⟩, l0⟩
        intro j v hj
        match j, hj with
        | 0, hj => simp [rwCells] at hj; subst hj; simpa using a0
        | 1, hj => simp [rwCells] at hj; subst hj; simpa using a1
        | 2, hj => simp [rwCells] at hj; subst hj; simpa using a2
        | 3, hj => simp [rwCells] at hj; subst hj; simpa using a3
        | 4, hj => simp [rwCells] at hj; subst hj; simpa using a4
        | j + 5, hj => simp [rwCells] at hj
    obtain ⟨F, hF⟩ : ∃ F : Nat → Ms.Rw, ∀ i, i < len → (∀ (j : Nat) v, (rwCells (F i))[j]? = some v → W.cell? (a.add (i * 5 + j)) = some v) ∧ ((F i).version < 18446744073709551616 ∧ (F i).stamp < 18446744073709551616) ∧ (F i).path.length ≤ 140737488355328 :=
      ⟨fun i => if h : i < len then (key i h).choose else ⟨[], 0, 0, 0, 0⟩, fun i h => by simp only [dif_pos h]; exact (key i h).choose_spec⟩
    refine ⟨_, _, _, (List.range len).map F, hcs, fun hn => ?_, by simp, hl, hle, ?_⟩
    · have hlen : 0 < len := by simpa using hn
      have h0 := (hF 0 hlen).1 0 _ rfl
      obtain ⟨b, off, spot⟩ := a
      have hspot : spot = none := by simpa [Addr.add] using World.cell?_spot h0
      subst hspot
      rw [addr_add] at h0
      have hlt := World.block_lt_of_cell? W _ h0
      refine ⟨b, off, rfl, hlt, .inl hlt, fun j v hj => ?_⟩
      have hjl := (List.getElem?_eq_some_iff.1 hj).1
      rw [rwCells_len] at hjl
      simp only [List.length_map, List.length_range] at hjl
      have hq : j / 5 < len := by omega
      have hx : ((List.range len).map F)[j / 5]? = some (F (j / 5)) := by simp [hq]
      have hr : j % 5 < (rwCells (F (j / 5))).length := by simp [rwCells]; omega
      have h1 := rwCells_at ((List.range len).map F) (j / 5) (F (j / 5)) hx (j % 5) _ (List.getElem?_eq_getElem hr)
      have h2 := (hF (j / 5) hq).1 (j % 5) _ (List.getElem?_eq_getElem hr)
      have e : j / 5 * 5 + j % 5 = j := by omega
      rw [e] at h1 h2
      rw [addr_add] at h2
      rw [h1] at hj
      rw [← hj]; exact h2
    · intro x hx
      simp only [List.mem_map, List.mem_range] at hx
      obtain ⟨i, hi, rfl⟩ := hx
      exact (hF i hi).2
set_option maxRecDepth 100000 in
set_option maxHeartbeats 1000000 in
/-- an argument of type api.Msg -/
theorem open_msg {v : Value} {d : DataW H} {p : List MemPlace}
    (hv : Value.okWide Tryz.prog W .any b0 27 v) (h0 : DataW.Trod enc Tryz.prog W 0 (fun _ => true) true 27 v d p) (hsz : ∀ n ∈ d.weights Tryz.prog 27, n ≤ reachBytes) :
    ∃ m, MsgV W W.heap.size m v ∧ Ms.Wf m ∧ Ms.Big m := by
  obtain ⟨cs, rfl, hcsz⟩ := okWide_struct Tryz.underlying27 hv
  obtain ⟨fuel, hf⟩ := h0
  obtain ⟨ys, n', hn', hy, hlen, hyl, hfl⟩ := DataW.trod_struct Tryz.underlying27 hf
  simp only [Prod.mk.injEq] at hy
  have w3 : (Tryz.prog.cellsOf 3) = 1 := by kernel_rfl
  have w9 : (Tryz.prog.cellsOf 9) = 1 := by kernel_rfl
  have w22 : (Tryz.prog.cellsOf 22) = 1 := by kernel_rfl
  have w4 : (Tryz.prog.cellsOf 4) = 1 := by kernel_rfl
  have w23 : (Tryz.prog.cellsOf 23) = 1 := by kernel_rfl
  have w24 : (Tryz.prog.cellsOf 24) = 1 := by kernel_rfl
  have w25 : (Tryz.prog.cellsOf 25) = 1 := by kernel_rfl
  have hC : Tryz.prog.cellsOf 27 = 16 := by kernel_rfl
  obtain ⟨L, hL⟩ : ∃ L, L = cs.toList := ⟨_, rfl⟩
  have hcs : cs = L.toArray := by rw [hL]
  subst hcs
  have hLl : L.length = 16 := by rw [hC] at hcsz; simpa using hcsz
  simp only [Value.cells] at hfl
  clear hL hlen hcsz hv
  have hys16 : ys.length = 16 := hyl
  match L, hLl, ys, hys16 with
  | [v0, v1, v2, v3, v4, v5, v6, v7, v8, v9, v10, v11, v12, v13, v14, v15], _, [y0, y1, y2, y3, y4, y5, y6, y7, y8, y9, y10, y11, y12, y13, y14, y15], _ =>
    have g0 := hfl 0 _ rfl
    have g1 := hfl 1 _ rfl
    have g2 := hfl 2 _ rfl
    have g3 := hfl 3 _ rfl
    have g4 := hfl 4 _ rfl
    have g5 := hfl 5 _ rfl
    have g6 := hfl 6 _ rfl
    have g7 := hfl 7 _ rfl
    have g8 := hfl 8 _ rfl
    have g9 := hfl 9 _ rfl
    have g10 := hfl 10 _ rfl
    have g11 := hfl 11 _ rfl
    have g12 := hfl 12 _ rfl
    have g13 := hfl 13 _ rfl
    have g14 := hfl 14 _ rfl
    have g15 := hfl 15 _ rfl
    simp [w3] at g0 g3 g5 g9 g10 g11
    simp [w22] at g1 g2 g6 g7 g8
    simp [w9] at g4
    simp [w23] at g12
    simp [w4] at g13
    simp [w24] at g14
    simp [w25] at g15
    obtain ⟨z0, e0, _, _⟩ := DataW.trod_int Tryz.underlying3 g0
    obtain ⟨z1, e1, _, u1⟩ := DataW.trod_int Tryz.underlying22 g1
    obtain ⟨z2, e2, _, u2⟩ := DataW.trod_int Tryz.underlying22 g2
    obtain ⟨z3, e3, _, _⟩ := DataW.trod_int Tryz.underlying3 g3
    obtain ⟨z5, e5, _, _⟩ := DataW.trod_int Tryz.underlying3 g5
    obtain ⟨z6, e6, _, u6⟩ := DataW.trod_int Tryz.underlying22 g6
    obtain ⟨z7, e7, _, u7⟩ := DataW.trod_int Tryz.underlying22 g7
    obtain ⟨z8, e8, _, u8⟩ := DataW.trod_int Tryz.underlying22 g8
    obtain ⟨z9, e9, _, _⟩ := DataW.trod_int Tryz.underlying3 g9
    obtain ⟨z10, e10, _, _⟩ := DataW.trod_int Tryz.underlying3 g10
    obtain ⟨z11, e11, _, _⟩ := DataW.trod_int Tryz.underlying3 g11
    obtain ⟨z12, e12, _, _⟩ := DataW.trod_int Tryz.underlying23 g12
    obtain ⟨z13, e13, _⟩ := DataW.trod_bool Tryz.underlying4 g13
    obtain ⟨s4, rfl, l4⟩ := mfield_str Tryz.underlying9 g4 (fun n hn => hsz n (by
      rw [hy.1]
      simp only [DataW.weights, Tryz.underlying27]
      exact DataW.weights_mem_each (j := 4) (t := 9) rfl rfl n hn))
    obtain ⟨A14, n14, c14, b14, rfl, hb14, hc14, hn14⟩ := mfield_bs Tryz.underlying24 Tryz.underlying5 (by kernel_rfl) (by kernel_rfl) g14 (fun n hn => hsz n (by
      rw [hy.1]
      simp only [DataW.weights, Tryz.underlying27]
      exact DataW.weights_mem_each (j := 14) (t := 24) rfl rfl n hn))
    obtain ⟨A15, n15, c15, l15, rfl, hr15, hl15, hc15, hn15, hx15⟩ := mfield_rows g15 (fun n hn => hsz n (by
      rw [hy.1]
      simp only [DataW.weights, Tryz.underlying27]
      exact DataW.weights_mem_each (j := 15) (t := 25) rfl rfl n hn))
    simp only [List.cons.injEq, and_true] at e0 e1 e2 e3 e5 e6 e7 e8 e9 e10 e11 e12 e13
    obtain ⟨n1, rfl, hn1⟩ := u64_nat u1
    obtain ⟨n2, rfl, hn2⟩ := u64_nat u2
    obtain ⟨n6, rfl, hn6⟩ := u64_nat u6
    obtain ⟨n7, rfl, hn7⟩ := u64_nat u7
    obtain ⟨n8, rfl, hn8⟩ := u64_nat u8
    subst e0 e1 e2 e3 e5 e6 e7 e8 e9 e10 e11 e12 e13
    have hbl := hb14.1
    subst hbl
    subst hl15
    exact ⟨⟨z0, n1, n2, z3, s4, z5, n6, n7, n8, z9, z10, z11, z12, z13, b14, l15⟩, ⟨A14, c14, A15, c15, rfl, Dat.old hb14 (Nat.le_refl _), hc14, hr15, hc15⟩, ⟨hn1, hn2, hn6, hn7, hn8, fun x hx => (hx15 x hx).1⟩, ⟨l4, hn14, hn15, fun x hx => (hx15 x hx).2⟩⟩
end
end Go.Proofs.YthhhiiagppckhaaGreatDoor
end
