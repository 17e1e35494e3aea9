/- Opening a statement's argument: a slice of messages; conditions: none beyond their hypotheses. -/
import Derived.Test.YthhhiiagppckhaaDoorMgOpm
import Derived.Test.YthhhiiagppckhaaDoorMgLn4
set_option linter.unusedSimpArgs false
set_option linter.unusedVariables false
section
namespace Go.Proofs.YthhhiiagppckhaaDoor
open Go.ChangeShapes Go.WideShapes Go.ChangeAt Go.RowKit Go.Deep Go.Proofs.U
set_option linter.unusedVariables false
section
variable {H : Type} {enc : TypeId × Value → H} {W : World} {b0 : Nat}
set_option maxRecDepth 100000 in
set_option maxHeartbeats 1000000 in
/-- one message's cells -/
theorem open_mcells {L : List Value} {d : DataW H} {p : List MemPlace} {fuel : Nat} (hLl : L.length = 16)
    (hf : DataW.trod enc Tryd.prog W 0 (fun _ => true) true fuel 27 L = some (d, p)) (hsz : ∀ n ∈ d.weights Tryd.prog 27, n ≤ reachBytes) :
    ∃ q : Mp, L = q.cells ∧ MsgV W W.heap.size q.m q.v ∧ Ms.Wf q.m ∧ Ms.Big q.m := by
  obtain ⟨ys, n', hn', hy, hlen, hyl, hfl⟩ := DataW.trod_struct Tryd.underlying27 hf
  simp only [Prod.mk.injEq] at hy
  have w3 : (Tryd.prog.cellsOf 3) = 1 := by kernel_rfl
  have w9 : (Tryd.prog.cellsOf 9) = 1 := by kernel_rfl
  have w22 : (Tryd.prog.cellsOf 22) = 1 := by kernel_rfl
  have w4 : (Tryd.prog.cellsOf 4) = 1 := by kernel_rfl
  have w23 : (Tryd.prog.cellsOf 23) = 1 := by kernel_rfl
  have w24 : (Tryd.prog.cellsOf 24) = 1 := by kernel_rfl
  have w25 : (Tryd.prog.cellsOf 25) = 1 := by kernel_rfl
  have hC : Tryd.prog.cellsOf 27 = 16 := by kernel_rfl
  have hys16 : ys.length = 16 := hyl
  match L, hLl, ys, hys16 with
  | [v0, v1, v2, v3, v4, v5, v6, v7, v8, v9, v10, v11, v12, v13, v14, v15], _, [y0, y1, y2, y3, y4, y5, y6, y7, y8, y9, y10, y11, y12, y13, y14, y15], _ =>
    have g0 := hfl 0 _ rfl
    have g1 := hfl 1 _ rfl
    have g2 := hfl 2 _ rfl
    have g3 := hfl 3 _ rfl
    have g4 := hfl 4 _ rfl
    have g5 := hfl 5 _ rfl
    have g6 := hfl 6 _ rfl
    have g7 := hfl 7 _ rfl
    have g8 := hfl 8 _ rfl
    have g9 := hfl 9 _ rfl
    have g10 := hfl 10 _ rfl
    have g11 := hfl 11 _ rfl
    have g12 := hfl 12 _ rfl
    have g13 := hfl 13 _ rfl
    have g14 := hfl 14 _ rfl
    have g15 := hfl 15 _ rfl
    simp [w3] at g0 g3 g5 g9 g10 g11
    simp [w22] at g1 g2 g6 g7 g8
    simp [w9] at g4
    simp [w23] at g12
    simp [w4] at g13
    simp [w24] at g14
    simp [w25] at g15
    obtain ⟨z0, e0, _, _⟩ := DataW.trod_int Tryd.underlying3 g0
    obtain ⟨z1, e1, _, u1⟩ := DataW.trod_int Tryd.underlying22 g1
    obtain ⟨z2, e2, _, u2⟩ := DataW.trod_int Tryd.underlying22 g2
    obtain ⟨z3, e3, _, _⟩ := DataW.trod_int Tryd.underlying3 g3
    obtain ⟨z5, e5, _, _⟩ := DataW.trod_int Tryd.underlying3 g5
    obtain ⟨z6, e6, _, u6⟩ := DataW.trod_int Tryd.underlying22 g6
    obtain ⟨z7, e7, _, u7⟩ := DataW.trod_int Tryd.underlying22 g7
    obtain ⟨z8, e8, _, u8⟩ := DataW.trod_int Tryd.underlying22 g8
    obtain ⟨z9, e9, _, _⟩ := DataW.trod_int Tryd.underlying3 g9
    obtain ⟨z10, e10, _, _⟩ := DataW.trod_int Tryd.underlying3 g10
    obtain ⟨z11, e11, _, _⟩ := DataW.trod_int Tryd.underlying3 g11
    obtain ⟨z12, e12, _, _⟩ := DataW.trod_int Tryd.underlying23 g12
    obtain ⟨z13, e13, _⟩ := DataW.trod_bool Tryd.underlying4 g13
    obtain ⟨s4, rfl, l4⟩ := mfield_str Tryd.underlying9 g4 (fun n hn => hsz n (by
      rw [hy.1]
      simp only [DataW.weights, Tryd.underlying27]
      exact DataW.weights_mem_each (j := 4) (t := 9) rfl rfl n hn))
    obtain ⟨A14, n14, c14, b14, rfl, hb14, hc14, hn14⟩ := mfield_bs Tryd.underlying24 Tryd.underlying5 (by kernel_rfl) (by kernel_rfl) g14 (fun n hn => hsz n (by
      rw [hy.1]
      simp only [DataW.weights, Tryd.underlying27]
      exact DataW.weights_mem_each (j := 14) (t := 24) rfl rfl n hn))
    obtain ⟨A15, n15, c15, l15, rfl, hr15, hl15, hc15, hn15, hx15⟩ := mfield_rows g15 (fun n hn => hsz n (by
      rw [hy.1]
      simp only [DataW.weights, Tryd.underlying27]
      exact DataW.weights_mem_each (j := 15) (t := 25) rfl rfl n hn))
    simp only [List.cons.injEq, and_true] at e0 e1 e2 e3 e5 e6 e7 e8 e9 e10 e11 e12 e13
    obtain ⟨n1, rfl, hn1⟩ := u64_nat u1
    obtain ⟨n2, rfl, hn2⟩ := u64_nat u2
    obtain ⟨n6, rfl, hn6⟩ := u64_nat u6
    obtain ⟨n7, rfl, hn7⟩ := u64_nat u7
    obtain ⟨n8, rfl, hn8⟩ := u64_nat u8
    subst e0 e1 e2 e3 e5 e6 e7 e8 e9 e10 e11 e12 e13
    have hbl := hb14.1
    subst hbl
    subst hl15
    exact ⟨⟨⟨z0, n1, n2, z3, s4, z5, n6, n7, n8, z9, z10, z11, z12, z13, b14, l15⟩, A14, c14, A15, c15⟩, rfl, ⟨A14, c14, A15, c15, rfl, Dat.old hb14 (Nat.le_refl _), hc14, hr15, hc15⟩, ⟨hn1, hn2, hn6, hn7, hn8, fun x hx => (hx15 x hx).1⟩, ⟨l4, hn14, hn15, fun x hx => (hx15 x hx).2⟩⟩
set_option maxRecDepth 100000 in
/-- an argument of type []api.Msg, nil or not -/
theorem open_msgs {v : Value} {d : DataW H} {p : List MemPlace}
    (hv : Value.okWide Tryd.prog W .any b0 66 v) (h0 : DataW.Trod enc Tryd.prog W 0 (fun _ => true) true 66 v d p) (hsz : ∀ n ∈ d.weights Tryd.prog 66, n ≤ reachBytes) :
    ∃ A n c ps, v = .slice A n c ∧ MS W W.heap.size A n ps ∧ (∀ q ∈ ps, MsgV W W.heap.size q.m q.v ∧ Ms.Wf q.m ∧ Ms.Big q.m) ∧ n ≤ maxLen ∧ n ≤ c := by
  obtain ⟨a0, len, cap, rfl⟩ := okWide_slice Tryd.underlying66 hv
  obtain ⟨fuel, hf⟩ := h0
  have hC : Tryd.prog.cellsOf 27 = 16 := by kernel_rfl
  rcases open_slice Tryd.underlying66 hf with ⟨hcs, hx⟩ | ⟨a, len', cap', m, n, D, Pl, hcs, _, hl, hm, hmm, hx, hi⟩
  · simp [Value.cells] at hcs
    obtain ⟨rfl, rfl, rfl⟩ := hcs
    exact ⟨none, 0, 0, [], rfl, MS.nil _ _ _, by simp, by simp, Nat.le_refl _⟩
  · simp [Value.cells] at hcs
    obtain ⟨rfl, rfl, rfl⟩ := hcs
    simp only [if_true] at hmm
    subst hmm
    have hd := congrArg Prod.fst hx
    simp only at hd
    have key : ∀ i, i < len → ∃ q : Mp, (∀ (j : Nat) v, q.cells[j]? = some v → W.cell? (a.add (i * 16 + j)) = some v) ∧ MsgV W W.heap.size q.m q.v ∧ Ms.Wf q.m ∧ Ms.Big q.m := by
      intro i hil
      obtain ⟨cs', hc, ht'⟩ := hi i (by omega)
      rw [hC] at hc
      have hsi : ∀ n ∈ (D i).weights Tryd.prog 27, n ≤ reachBytes := fun n hn => hsz n (by
        rw [hd]
        simp only [DataW.weights, Tryd.underlying66, List.mem_cons, List.mem_append]
        exact .inr (.inl (weightsAll_mem (j := i) (by simp [hil]) n hn)))
      obtain ⟨_, hcl, hat⟩ := World.cells?_some hc
      obtain ⟨q, rfl, h1, h2, h3⟩ := open_mcells hcl ht' hsi
      refine ⟨q, fun j v hj => ?_, h1, h2, h3⟩
      have hjl := (List.getElem?_eq_some_iff.1 hj).1
      have h := hat j (by rw [← hcl]; exact hjl)
      rw [Go.Deep.add_add] at h
      rw [h, hj]
    obtain ⟨F, hF⟩ : ∃ F : Nat → Mp, ∀ i, i < len → (∀ (j : Nat) v, (F i).cells[j]? = some v → W.cell? (a.add (i * 16 + j)) = some v) ∧ MsgV W W.heap.size (F i).m (F i).v ∧ Ms.Wf (F i).m ∧ Ms.Big (F i).m :=
      ⟨fun i => if h : i < len then (key i h).choose else ⟨Ms.zero, none, 0, none, 0⟩, fun i h => by simp only [dif_pos h]; exact (key i h).choose_spec⟩
    refine ⟨_, _, _, (List.range len).map F, rfl, ⟨by simp, fun hn => ?_⟩, ?_, by omega, hl⟩
    · have h0 := (hF 0 hn).1 0 _ rfl
      obtain ⟨b, off, spot⟩ := a
      have hspot : spot = none := by simpa [Addr.add] using World.cell?_spot h0
      subst hspot
      rw [addr_add] at h0
      refine ⟨b, off, rfl, World.block_lt_of_cell? W _ h0, fun j v hj => ?_⟩
      have hjl := (List.getElem?_eq_some_iff.1 hj).1
      rw [mps_len] at hjl
      simp only [List.length_map, List.length_range] at hjl
      have hq : j / 16 < len := by omega
      have hx : ((List.range len).map F)[j / 16]? = some (F (j / 16)) := by simp [hq]
      have hr : j % 16 < (F (j / 16)).cells.length := by rw [Mp.cells_len]; omega
      have h1 := mps_at ((List.range len).map F) (j / 16) (F (j / 16)) hx (j % 16) _ (List.getElem?_eq_getElem hr)
      have h2 := (hF (j / 16) hq).1 (j % 16) _ (List.getElem?_eq_getElem hr)
      have e : j / 16 * 16 + j % 16 = j := by omega
      rw [e] at h1 h2
      rw [addr_add] at h2
      rw [h1] at hj
      rw [← hj]; exact h2
    · intro x hx
      simp only [List.mem_map, List.mem_range] at hx
      obtain ⟨i, hi, rfl⟩ := hx
      exact (hF i hi).2
end
end Go.Proofs.YthhhiiagppckhaaDoor
end
