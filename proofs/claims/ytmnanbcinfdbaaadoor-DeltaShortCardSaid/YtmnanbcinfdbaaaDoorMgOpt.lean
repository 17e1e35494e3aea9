/- Opening a statement's argument: a slice of steps; conditions: none beyond their hypotheses. -/
import Derived.Test.YtmnanbcinfdbaaaDoorMgOp
import Derived.Test.YtmnanbcinfdbaaaDoorMgGr11
import Derived.Deep.Slices
import Derived.Deep.Fields
import Derived.ChangeSame
set_option linter.unusedSimpArgs false
set_option linter.unusedVariables false
section
namespace Go.Proofs.YtmnanbcinfdbaaaDoor
open Go.ChangeShapes Go.WideShapes Go.ChangeAt Go.RowKit Go.Deep Go.Proofs.U
set_option linter.unusedVariables false
section
variable {H : Type} {enc : TypeId × Value → H} {W : World} {b0 : Nat}
/-- one field's bytes -/
theorem field_bs {P : Program} {t e : TypeId} (ht : P.underlying t = some (.slice e)) (he : P.underlying e = some (.int .u8)) (hc : P.cellsOf e = 1) (hby : P.bytesOf e = 1) {fuel : Nat} {v : Value} {y : DataW H × List MemPlace}
    (hf : DataW.trod enc P W 0 (fun _ => true) true fuel t [v] = some y) (hsz : ∀ n ∈ y.1.weights P t, n ≤ reachBytes) :
    ∃ A n c bs, v = .slice A n c ∧ BS W W.heap.size A n bs ∧ n ≤ c ∧ n ≤ 140737488355328 := by
  rcases open_ints ht he hc hf with ⟨hcs, hx⟩ | ⟨a, len, cap, zs, hcs, _, hl, hm, hz, hx, hcell, hwz⟩
  · simp only [List.cons.injEq, and_true] at hcs
    exact ⟨none, 0, 0, [], hcs, BS.nil _ _ _, Nat.le_refl _, by simp⟩
  · simp only [List.cons.injEq, and_true] at hcs
    simp only [if_true] at hz
    have hle : len ≤ 140737488355328 := by
      have hd := congrArg Prod.fst hx
      simp only at hd
      have := hsz ((len + (cap - len)) * P.bytesOf e) (by
        rw [hd]
        simp only [DataW.weights, ht]
        have : ((lits (H := H) .u8 (zs.take len)).length + (lits (H := H) .u8 (zs.drop len)).length) = len + (cap - len) := by simp [lits, hz]; omega
        rw [this]; exact List.mem_cons_self)
      rw [hby] at this
      have hre : reachBytes < 2 ^ 47 := reachBytes_lt
      omega
    refine ⟨_, _, _, (zs.take len).map fun x => UInt8.ofNat x.toNat, hcs, ⟨by simp; omega, fun hn => ?_⟩, hl, hle⟩
    have hcell0 := hcell 0 (by omega)
    obtain ⟨b, off, spot⟩ := a
    have hspot : spot = none := by simpa [Addr.add] using World.cell?_spot hcell0
    subst hspot
    have hcell' : ∀ i, i < zs.length → W.cell? ⟨b, off + i, none⟩ = some (.int .u8 (zs.getD i 0)) := fun i hi => by rw [← addr_add]; exact hcell i hi
    refine ⟨b, off, rfl, World.block_lt_of_cell? W _ (hcell' 0 (by omega)), fun j hj => ?_⟩
    have hj2 : j < zs.length := by simp at hj; omega
    rw [hcell' j hj2]
    have hmem : zs[j] ∈ zs := List.getElem_mem hj2
    have hbd := u8_bound (hwz _ hmem)
    simp [List.getD, hj2]
    omega
set_option maxRecDepth 100000 in
/-- an argument of type []api.Step, nil or not -/
theorem open_steps {v : Value} {d : DataW H} {p : List MemPlace}
    (hv : Value.okWide Tryd.prog W .any b0 65 v) (h0 : DataW.Trod enc Tryd.prog W 0 (fun _ => true) true 65 v d p) (hsz : ∀ n ∈ d.weights Tryd.prog 65, n ≤ reachBytes) :
    ∃ A n c l, v = .slice A n c ∧ SP W A n l ∧ (∀ x ∈ l, Rng x) ∧ (∀ x ∈ l, x.d.length ≤ 140737488355328) ∧ n ≤ maxLen ∧ n ≤ c := by
  obtain ⟨a0, len, cap, rfl⟩ := okWide_slice Tryd.underlying65 hv
  obtain ⟨fuel, hf⟩ := h0
  have hC : Tryd.prog.cellsOf 68 = 4 := by kernel_rfl
  rcases open_slice Tryd.underlying65 hf with ⟨hcs, hx⟩ | ⟨a, len', cap', m, n, D, Pl, hcs, _, hl, hm, hmm, hx, hi⟩
  · simp [Value.cells] at hcs
    obtain ⟨rfl, rfl, rfl⟩ := hcs
    exact ⟨none, 0, 0, [], rfl, SP.nil _ _, by simp, by simp, by simp, Nat.le_refl _⟩
  · simp [Value.cells] at hcs
    obtain ⟨rfl, rfl, rfl⟩ := hcs
    simp only [if_true] at hmm
    subst hmm
    have hd := congrArg Prod.fst hx
    simp only at hd
    have key : ∀ i, i < len → ∃ (x : Gr.Stp) (A' : Option Addr) (c' : Nat), W.cell? (a.add (i * 4)) = some (.int .i64 x.k) ∧ W.cell? (a.add (i * 4 + 1)) = some (.int .i64 x.f) ∧ W.cell? (a.add (i * 4 + 2)) = some (.int .i64 x.l) ∧
        W.cell? (a.add (i * 4 + 3)) = some (.slice A' x.d.length c') ∧ x.d.length ≤ c' ∧ BS W W.heap.size A' x.d.length x.d ∧ Rng x ∧ x.d.length ≤ 140737488355328 := by
      intro i hil
      obtain ⟨cs', hc, ht'⟩ := hi i (by omega)
      rw [hC] at hc
      have hsi : ∀ n ∈ (D i).weights Tryd.prog 68, n ≤ reachBytes := fun n hn => hsz n (by
        rw [hd]
        simp only [DataW.weights, Tryd.underlying65, List.mem_cons, List.mem_append]
        exact .inr (.inl (weightsAll_mem (j := i) (by simp [hil]) n hn)))
      obtain ⟨ys, n', hn', hy, hlen, hyl, hfl⟩ := DataW.trod_struct Tryd.underlying68 ht'
      obtain ⟨_, hcl, hat⟩ := World.cells?_some hc
      simp only [Prod.mk.injEq] at hy
      have w3 : (Tryd.prog.cellsOf 3) = 1 := by kernel_rfl
      have w22 : (Tryd.prog.cellsOf 22) = 1 := by kernel_rfl
      match cs', hcl, ys, hyl with
      | [v0, v1, v2, v3], _, [y0, y1, y2, y3], _ =>
        have a0 := hat 0 (by omega)
        have a1 := hat 1 (by omega)
        have a2 := hat 2 (by omega)
        have a3 := hat 3 (by omega)
        have g0 := hfl 0 _ rfl
        have g1 := hfl 1 _ rfl
        have g2 := hfl 2 _ rfl
        have g3 := hfl 3 _ rfl
        simp [w3] at g0 g1 g2
        simp [w22] at g3
        obtain ⟨z0, e0, _, wf0⟩ := DataW.trod_int Tryd.underlying3 g0
        obtain ⟨z1, e1, _, wf1⟩ := DataW.trod_int Tryd.underlying3 g1
        obtain ⟨z2, e2, _, wf2⟩ := DataW.trod_int Tryd.underlying3 g2
        simp only [List.cons.injEq, and_true] at e0 e1 e2
        obtain ⟨A', n3, c3, bs, rfl, hbs, hc3, hn3⟩ := field_bs Tryd.underlying22 Tryd.underlying5 (by kernel_rfl) (by kernel_rfl) g3 (fun n hn => hsi n (by
          rw [hy.1]
          simp only [DataW.weights, Tryd.underlying68]
          exact DataW.weights_mem_each (j := 3) (t := 22) rfl rfl n hn))
        subst e0 e1 e2
        have hbl := hbs.1
        subst hbl
        simp only [Go.Deep.add_add] at a0 a1 a2 a3
        exact ⟨⟨z0, z1, z2, bs⟩, A', c3, by simpa using a0, by simpa using a1, by simpa using a2, by simpa using a3, hc3, hbs, ⟨i64_bound wf0, i64_bound wf1, i64_bound wf2⟩, hn3⟩
    obtain ⟨F, hF⟩ : ∃ F : Nat → Gr.Stp, ∀ i, i < len → ∃ (A' : Option Addr) (c' : Nat), W.cell? (a.add (i * 4)) = some (.int .i64 (F i).k) ∧ W.cell? (a.add (i * 4 + 1)) = some (.int .i64 (F i).f) ∧ W.cell? (a.add (i * 4 + 2)) = some (.int .i64 (F i).l) ∧
        W.cell? (a.add (i * 4 + 3)) = some (.slice A' (F i).d.length c') ∧ (F i).d.length ≤ c' ∧ BS W W.heap.size A' (F i).d.length (F i).d ∧ Rng (F i) ∧ (F i).d.length ≤ 140737488355328 :=
      ⟨fun i => if h : i < len then (key i h).choose else ⟨0, 0, 0, []⟩, fun i h => by simp only [dif_pos h]; exact (key i h).choose_spec⟩
    refine ⟨_, _, _, (List.range len).map F, rfl, ⟨by simp, fun hn => ?_⟩, ?_, ?_, by omega, hl⟩
    · obtain ⟨A', c', h0, _⟩ := hF 0 hn
      obtain ⟨b, off, spot⟩ := a
      have hspot : spot = none := by simpa [Addr.add] using World.cell?_spot h0
      subst hspot
      rw [addr_add] at h0
      refine ⟨b, off, rfl, World.block_lt_of_cell? W _ h0, fun j x hj => ?_⟩
      obtain ⟨hjl, rfl⟩ := List.getElem?_eq_some_iff.1 hj
      simp only [List.length_map, List.length_range] at hjl
      simp only [List.getElem_map, List.getElem_range]
      obtain ⟨A', c', h0, h1, h2, h3, h4, h5, _, _⟩ := hF j hjl
      rw [addr_add] at h0 h1 h2 h3
      exact ⟨A', c', h0, h1, h2, h3, h4, h5⟩
    · intro x hx
      simp only [List.mem_map, List.mem_range] at hx
      obtain ⟨i, hi, rfl⟩ := hx
      obtain ⟨_, _, _, _, _, _, _, _, h, _⟩ := hF i hi
      exact h
    · intro x hx
      simp only [List.mem_map, List.mem_range] at hx
      obtain ⟨i, hi, rfl⟩ := hx
      obtain ⟨_, _, _, _, _, _, _, _, _, h⟩ := hF i hi
      exact h
end
end Go.Proofs.YtmnanbcinfdbaaaDoor
end
