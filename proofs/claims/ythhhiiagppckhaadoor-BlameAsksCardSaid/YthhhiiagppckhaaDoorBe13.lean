/- Faults: a slice of them in memory, and as a statement's argument; conditions: none beyond their hypotheses. -/
import Derived.Test.YthhhiiagppckhaaDoorBq
import Derived.Test.YthhhiiagppckhaaDoorBe12
import Derived.Test.YthhhiiagppckhaaDoorOps
import Derived.Deep.Slices
import Derived.Deep.Fields
import Derived.ChangeSame
namespace Go.Proofs.YthhhiiagppckhaaDoor
open Go.RowKit Go.Proofs.U Go.Proofs.Bp
set_option linter.unusedVariables false

/-- a slice of faults, as it reads -/
def FS (w : World) (A : Option Addr) (n : Nat) (l : List Flt) : Prop :=
  l.length = n ∧ (0 < n → ∃ b off, A = some ⟨b, off, none⟩ ∧ b < w.heap.size ∧ ∀ (j : Nat) (x : Flt), l[j]? = some x → w.cell? ⟨b, off + j * 6, none⟩ = some (.int .i64 x.kind) ∧ w.cell? ⟨b, off + j * 6 + 1, none⟩ = some (.int .i64 x.code) ∧
    w.cell? ⟨b, off + j * 6 + 2, none⟩ = some (.string (strOf x.op)) ∧ w.cell? ⟨b, off + j * 6 + 3, none⟩ = some (.string (strOf x.path)) ∧ w.cell? ⟨b, off + j * 6 + 4, none⟩ = some (.int .i64 x.a) ∧ w.cell? ⟨b, off + j * 6 + 5, none⟩ = some (.int .i64 x.b))
theorem FS.nil (w : World) (A : Option Addr) : FS w A 0 [] := ⟨rfl, fun h => absurd h (by omega)⟩
theorem FS.below {w w' : World} {A : Option Addr} {n : Nat} {l : List Flt} (h : FS w A n l) (hb : Below w.heap.size w w') : FS w' A n l := by
  refine ⟨h.1, fun hn => ?_⟩
  obtain ⟨b, off, e, hlt, hc⟩ := h.2 hn
  refine ⟨b, off, e, Nat.lt_of_lt_of_le hlt hb.size, fun j x hx => ?_⟩
  obtain ⟨h0, h1, h2, h3, h4, h5⟩ := hc j x hx
  exact ⟨cell_below h0 hb, cell_below h1 hb, cell_below h2 hb, cell_below h3 hb, cell_below h4 hb, cell_below h5 hb⟩
theorem FS.take {w : World} {A : Option Addr} {n k : Nat} {l : List Flt} (h : FS w A n l) (hk : k ≤ n) : FS w A k (l.take k) := by
  refine ⟨by rw [List.length_take, h.1]; omega, fun hn => ?_⟩
  obtain ⟨b, off, e, hlt, hc⟩ := h.2 (by omega)
  refine ⟨b, off, e, hlt, fun j x hx => hc j x ?_⟩
  have hj : j < k := by
    have := (List.getElem?_eq_some_iff.1 hx).1
    rw [List.length_take] at this; omega
  rwa [List.getElem?_take_of_lt hj] at hx
theorem strOf_data (s : ByteArray) : strOf s.data.toList = s := by
  unfold strOf; cases s; simp
/-- numbers of 64 bits -/
def RngF (x : Flt) : Prop := (-9223372036854775808 ≤ x.kind ∧ x.kind ≤ 9223372036854775807) ∧ (-9223372036854775808 ≤ x.code ∧ x.code ≤ 9223372036854775807) ∧ (-9223372036854775808 ≤ x.a ∧ x.a ≤ 9223372036854775807) ∧ (-9223372036854775808 ≤ x.b ∧ x.b ≤ 9223372036854775807) ∧
  x.op.length ≤ 140737488355328 ∧ x.path.length ≤ 140737488355328
open Go.ChangeShapes Go.WideShapes Go.ChangeAt Go.Deep
section
variable {H : Type} {enc : TypeId × Value → H} {W : World} {b0 : Nat}
theorem field_str {P : Program} {t : TypeId} (ht : P.underlying t = some .string) {fuel : Nat} {v : Value} {y : DataW H × List MemPlace} (hf : DataW.trod enc P W 0 (fun _ => true) true fuel t [v] = some y) (hsz : ∀ n ∈ y.1.weights P t, n ≤ reachBytes) :
    ∃ s : List UInt8, v = .string (U.strOf s) ∧ s.length ≤ 140737488355328 := by
  obtain ⟨s', h, hx, hs⟩ := DataW.trod_string ht hf
  simp only [List.cons.injEq, and_true] at h
  refine ⟨s'.data.toList, by rw [h, strOf_data], ?_⟩
  have hd := congrArg Prod.fst hx
  simp only at hd
  have := hsz s'.data.toList.length (by rw [hd]; simp only [DataW.weights, List.mem_singleton])
  have hre : reachBytes < 2 ^ 47 := reachBytes_lt
  omega
/-- an argument of type string -/
theorem open_str {P : Program} {t : TypeId} (ht : P.underlying t = some .string) {v : Value} {d : DataW H} {p : List MemPlace}
    (hv : Value.okWide P W .any b0 t v) (h0 : DataW.Trod enc P W 0 (fun _ => true) true t v d p) (hsz : ∀ n ∈ d.weights P t, n ≤ reachBytes) :
    ∃ s : List UInt8, v = .string (U.strOf s) ∧ s.length ≤ 140737488355328 := by
  obtain ⟨s0, rfl⟩ := okWide_string ht hv
  obtain ⟨fuel, hf⟩ := h0
  obtain ⟨s', h, hx, hs⟩ := DataW.trod_string ht hf
  simp only [Value.cells, List.cons.injEq, and_true, Value.string.injEq] at h
  subst h
  refine ⟨s0.data.toList, by rw [strOf_data], ?_⟩
  have hd := congrArg Prod.fst hx
  simp only at hd
  have := hsz s0.data.toList.length (by rw [hd]; simp only [DataW.weights, List.mem_singleton])
  have hre : reachBytes < 2 ^ 47 := reachBytes_lt
  omega
set_option maxRecDepth 100000 in
/-- an argument of type []tenderref02.Fault, nil or not -/
theorem open_faults {v : Value} {d : DataW H} {p : List MemPlace}
    (hv : Value.okWide Tryd.prog W .any b0 43 v) (h0 : DataW.Trod enc Tryd.prog W 0 (fun _ => true) true 43 v d p) (hsz : ∀ n ∈ d.weights Tryd.prog 43, n ≤ reachBytes) :
    ∃ A n c l, v = .slice A n c ∧ FS W A n l ∧ (∀ x ∈ l, RngF x) ∧ n ≤ maxLen ∧ n ≤ c := by
  obtain ⟨a0, len, cap, rfl⟩ := okWide_slice Tryd.underlying43 hv
  obtain ⟨fuel, hf⟩ := h0
  have hC : Tryd.prog.cellsOf 120 = 6 := by kernel_rfl
  rcases open_slice Tryd.underlying43 hf with ⟨hcs, hx⟩ | ⟨a, len', cap', m, n, D, Pl, hcs, _, hl, hm, hmm, hx, hi⟩
  · simp [Value.cells] at hcs
    obtain ⟨rfl, rfl, rfl⟩ := hcs
    exact ⟨none, 0, 0, [], rfl, FS.nil _ _, by simp, by simp, Nat.le_refl _⟩
  · simp [Value.cells] at hcs
    obtain ⟨rfl, rfl, rfl⟩ := hcs
    simp only [if_true] at hmm
    subst hmm
    have hd := congrArg Prod.fst hx
    simp only at hd
    have key : ∀ i, i < len → ∃ (x : Flt), W.cell? (a.add (i * 6)) = some (.int .i64 x.kind) ∧ W.cell? (a.add (i * 6 + 1)) = some (.int .i64 x.code) ∧ W.cell? (a.add (i * 6 + 2)) = some (.string (U.strOf x.op)) ∧ W.cell? (a.add (i * 6 + 3)) = some (.string (U.strOf x.path)) ∧
        W.cell? (a.add (i * 6 + 4)) = some (.int .i64 x.a) ∧ W.cell? (a.add (i * 6 + 5)) = some (.int .i64 x.b) ∧ RngF x := by
      intro i hil
      obtain ⟨cs', hc, ht'⟩ := hi i (by omega)
      rw [hC] at hc
      have hsi : ∀ n ∈ (D i).weights Tryd.prog 120, n ≤ reachBytes := fun n hn => hsz n (by
        rw [hd]
        simp only [DataW.weights, Tryd.underlying43, List.mem_cons, List.mem_append]
        exact .inr (.inl (weightsAll_mem (j := i) (by simp [hil]) n hn)))
      obtain ⟨ys, n', hn', hy, hlen, hyl, hfl⟩ := DataW.trod_struct Tryd.underlying120 ht'
      obtain ⟨_, hcl, hat⟩ := World.cells?_some hc
      simp only [Prod.mk.injEq] at hy
      have w3 : (Tryd.prog.cellsOf 3) = 1 := by kernel_rfl
      have w9 : (Tryd.prog.cellsOf 9) = 1 := by kernel_rfl
      match cs', hcl, ys, hyl with
      | [v0, v1, v2, v3, v4, v5], _, [y0, y1, y2, y3, y4, y5], _ =>
        have a0 := hat 0 (by omega)
        have a1 := hat 1 (by omega)
        have a2 := hat 2 (by omega)
        have a3 := hat 3 (by omega)
        have a4 := hat 4 (by omega)
        have a5 := hat 5 (by omega)
        have g0 := hfl 0 _ rfl
        have g1 := hfl 1 _ rfl
        have g2 := hfl 2 _ rfl
        have g3 := hfl 3 _ rfl
        have g4 := hfl 4 _ rfl
        have g5 := hfl 5 _ rfl
        simp [w3] at g0 g1 g4 g5
        simp [w9] at g2 g3
        obtain ⟨z0, e0, _, wf0⟩ := DataW.trod_int Tryd.underlying3 g0
        obtain ⟨z1, e1, _, wf1⟩ := DataW.trod_int Tryd.underlying3 g1
        obtain ⟨z4, e4, _, wf4⟩ := DataW.trod_int Tryd.underlying3 g4
        obtain ⟨z5, e5, _, wf5⟩ := DataW.trod_int Tryd.underlying3 g5
        obtain ⟨s2, rfl, l2⟩ := field_str Tryd.underlying9 g2 (fun n hn => hsi n (by
          rw [hy.1]
          simp only [DataW.weights, Tryd.underlying120]
          exact DataW.weights_mem_each (j := 2) (t := 9) rfl rfl n hn))
        obtain ⟨s3, rfl, l3⟩ := field_str Tryd.underlying9 g3 (fun n hn => hsi n (by
          rw [hy.1]
          simp only [DataW.weights, Tryd.underlying120]
          exact DataW.weights_mem_each (j := 3) (t := 9) rfl rfl n hn))
        simp only [List.cons.injEq, and_true] at e0 e1 e4 e5
        subst e0 e1 e4 e5
        simp only [Go.Deep.add_add] at a0 a1 a2 a3 a4 a5
        exact ⟨⟨z0, z1, s2, s3, z4, z5⟩, by simpa using a0, by simpa using a1, by simpa using a2, by simpa using a3, by simpa using a4, by simpa using a5, i64_bound wf0, i64_bound wf1, i64_bound wf4, i64_bound wf5, l2, l3⟩
    obtain ⟨F, hF⟩ : ∃ F : Nat → Flt, ∀ i, i < len → W.cell? (a.add (i * 6)) = some (.int .i64 (F i).kind) ∧ W.cell? (a.add (i * 6 + 1)) = some (.int .i64 (F i).code) ∧ W.cell? (a.add (i * 6 + 2)) = some (.string (U.strOf (F i).op)) ∧ W.cell? (a.add (i * 6 + 3)) = some (.string (U.strOf (F i).path)) ∧
        W.cell? (a.add (i * 6 + 4)) = some (.int .i64 (F i).a) ∧ W.cell? (a.add (i * 6 + 5)) = some (.int .i64 (F i).b) ∧ RngF (F i) :=
      ⟨fun i => if h : i < len then (key i h).choose else ⟨0, 0, [], [], 0, 0⟩, fun i h => by simp only [dif_pos h]; exact (key i h).choose_spec⟩
    refine ⟨_, _, _, (List.range len).map F, rfl, ⟨by simp, fun hn => ?_⟩, ?_, by omega, hl⟩
    · obtain ⟨h0, _⟩ := hF 0 hn
      obtain ⟨b, off, spot⟩ := a
      have hspot : spot = none := by simpa [Addr.add] using World.cell?_spot h0
      subst hspot
      rw [addr_add] at h0
      refine ⟨b, off, rfl, World.block_lt_of_cell? W _ h0, fun j x hj => ?_⟩
      obtain ⟨hjl, rfl⟩ := List.getElem?_eq_some_iff.1 hj
      simp only [List.length_map, List.length_range] at hjl
      simp only [List.getElem_map, List.getElem_range]
      obtain ⟨h0, h1, h2, h3, h4, h5, _⟩ := hF j hjl
      rw [addr_add] at h0 h1 h2 h3 h4 h5
      exact ⟨h0, h1, h2, h3, h4, h5⟩
    · intro x hx
      simp only [List.mem_map, List.mem_range] at hx
      obtain ⟨i, hi, rfl⟩ := hx
      exact (hF i hi).2.2.2.2.2.2
end
end Go.Proofs.YthhhiiagppckhaaDoor
