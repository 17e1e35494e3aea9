/- Opening a statement's arguments: what the form's reading gives the walk. Opening a statement's arguments: slices of slices of bytes, slices of 16-bit words. -/
import Derived.Test.YthhhiiagppckhaaGreatDoorMgU
import Derived.ProofKit
import Derived.OpenShut
import Derived.ChangeOld
import Derived.Below
import Derived.Deep.DeepHandedRow
import Derived.Lib.LaidTab
import Derived.Lib.SmallJoins
import Derived.Test.YthhhiiagppckhaaGreatDoorMgSl
import Derived.Deep.Matrix
import Derived.SizedLaws
set_option linter.unusedSimpArgs false
set_option linter.unusedVariables false
section
namespace Go.Proofs.U
open Go.ChangeShapes Go.WideShapes Go.ChangeAt Go.RowKit
set_option linter.unusedVariables false

section
variable {H : Type} {enc : TypeId × Value → H} {P : Program} {W : World} {b0 : Nat}

theorem u8_bound {x : Int} (h : (Lit.int .u8 x).wf = true) : 0 ≤ x ∧ x < 256 := by
  have h1 : IntKind.u8.min = 0 := rfl
  have h2 : IntKind.u8.max = 255 := rfl
  simp only [Lit.wf, Bool.and_eq_true, decide_eq_true_eq] at h
  omega
theorem u16_bound {x : Int} (h : (Lit.int .u16 x).wf = true) : 0 ≤ x ∧ x < 65536 := by
  have h1 : IntKind.u16.min = 0 := rfl
  have h2 : IntKind.u16.max = 65535 := rfl
  simp only [Lit.wf, Bool.and_eq_true, decide_eq_true_eq] at h
  omega
theorem u32_bound {x : Int} (h : (Lit.int .u32 x).wf = true) : 0 ≤ x ∧ x < 4294967296 := by
  have h1 : IntKind.u32.min = 0 := rfl
  have h2 : IntKind.u32.max = 4294967295 := rfl
  simp only [Lit.wf, Bool.and_eq_true, decide_eq_true_eq] at h
  omega
theorem i64_bound {x : Int} (h : (Lit.int .i64 x).wf = true) : -9223372036854775808 ≤ x ∧ x ≤ 9223372036854775807 := by
  have h1 : IntKind.i64.min = -9223372036854775808 := rfl
  have h2 : IntKind.i64.max = 9223372036854775807 := rfl
  simp only [Lit.wf, Bool.and_eq_true, decide_eq_true_eq] at h
  omega

/-- an argument of type []byte, nil or not -/
theorem open_bs {t e : TypeId} (ht : P.underlying t = some (.slice e)) (he : P.underlying e = some (.int .u8)) (hc : P.cellsOf e = 1) {v : Value} {d : DataW H} {p : List MemPlace}
    (hv : Value.okWide P W .any b0 t v) (h0 : DataW.Trod enc P W 0 (fun _ => true) true t v d p) :
    ∃ A n c bs, v = .slice A n c ∧ BS W W.heap.size A n bs ∧ n ≤ maxLen ∧ n ≤ c := by
  obtain ⟨a0, len, cap, rfl⟩ := okWide_slice ht hv
  obtain ⟨fuel, hf⟩ := h0
  rcases open_ints ht he hc hf with ⟨hcs, hx⟩ | ⟨a, len', cap', zs, hcs, _, hl, hm, hz, hx, hcell, hwz⟩
  · simp [Value.cells] at hcs
    obtain ⟨rfl, rfl, rfl⟩ := hcs
    exact ⟨none, 0, 0, [], rfl, BS.nil _ _ _, by simp, Nat.le_refl _⟩
  · simp [Value.cells] at hcs
    obtain ⟨rfl, rfl, rfl⟩ := hcs
    simp only [if_true] at hz
    refine ⟨_, _, _, (zs.take len).map fun x => UInt8.ofNat x.toNat, rfl, ⟨by simp; omega, fun hn => ?_⟩, by omega, hl⟩
    have hcell0 := hcell 0 (by omega)
    obtain ⟨b, off, spot⟩ := a
    have hspot : spot = none := by simpa [Addr.add] using World.cell?_spot hcell0
    subst hspot
    have hcell' : ∀ i, i < zs.length → W.cell? ⟨b, off + i, none⟩ = some (.int .u8 (zs.getD i 0)) := fun i hi => by rw [← addr_add]; exact hcell i hi
    refine ⟨b, off, rfl, World.block_lt_of_cell? W _ (hcell' 0 (by omega)), fun j hj => ?_⟩
    have hj2 : j < zs.length := by simp at hj; omega
    rw [hcell' j hj2]
    have hmem : zs[j] ∈ zs := List.getElem_mem hj2
    have hbd := u8_bound (hwz _ hmem)
    simp [List.getD, hj2]
    omega

/-- an argument of type []int, nil or not -/
theorem open_is {t e : TypeId} (ht : P.underlying t = some (.slice e)) (he : P.underlying e = some (.int .i64)) (hc : P.cellsOf e = 1) {v : Value} {d : DataW H} {p : List MemPlace}
    (hv : Value.okWide P W .any b0 t v) (h0 : DataW.Trod enc P W 0 (fun _ => true) true t v d p) :
    ∃ A n c, ∃ zs : List Int, v = .slice A n c ∧ VS W W.heap.size A n (zs.map (Value.int .i64)) ∧ (∀ z ∈ zs, -9223372036854775808 ≤ z ∧ z ≤ 9223372036854775807) ∧ n ≤ maxLen ∧ n ≤ c := by
  obtain ⟨a0, len, cap, rfl⟩ := okWide_slice ht hv
  obtain ⟨fuel, hf⟩ := h0
  rcases open_ints ht he hc hf with ⟨hcs, hx⟩ | ⟨a, len', cap', zs, hcs, _, hl, hm, hz, hx, hcell, hwz⟩
  · simp [Value.cells] at hcs
    obtain ⟨rfl, rfl, rfl⟩ := hcs
    exact ⟨none, 0, 0, [], rfl, VS.nil _ _ _, by simp, by simp, Nat.le_refl _⟩
  · simp [Value.cells] at hcs
    obtain ⟨rfl, rfl, rfl⟩ := hcs
    simp only [if_true] at hz
    refine ⟨_, _, _, zs.take len, rfl, ⟨by simp; omega, fun hn => ?_⟩, fun z hz' => i64_bound (hwz z (List.mem_of_mem_take hz')), by omega, hl⟩
    have hcell0 := hcell 0 (by omega)
    obtain ⟨b, off, spot⟩ := a
    have hspot : spot = none := by simpa [Addr.add] using World.cell?_spot hcell0
    subst hspot
    have hcell' : ∀ i, i < zs.length → W.cell? ⟨b, off + i, none⟩ = some (.int .i64 (zs.getD i 0)) := fun i hi => by rw [← addr_add]; exact hcell i hi
    refine ⟨b, off, rfl, World.block_lt_of_cell? W _ (hcell' 0 (by omega)), fun j hj => ?_⟩
    have hj2 : j < zs.length := by simp at hj; omega
    rw [hcell' j hj2]
    simp [List.getD, hj2]

theorem open_u32 {t : TypeId} (ht : P.underlying t = some (.int .u32)) {v : Value} {d : DataW H} {p : List MemPlace} (hv : Value.okWide P W .any b0 t v) (h0 : DataW.Trod enc P W 0 (fun _ => true) true t v d p) :
    ∃ s : BitVec 32, v = .int .u32 (s.toNat : Int) := by
  obtain ⟨x, rfl, rfl, rfl, wx⟩ := open_int ht hv h0
  have := u32_bound wx
  refine ⟨BitVec.ofNat 32 x.toNat, ?_⟩
  rw [BitVec.toNat_ofNat]
  congr 1; omega
theorem open_u8 {t : TypeId} (ht : P.underlying t = some (.int .u8)) {v : Value} {d : DataW H} {p : List MemPlace} (hv : Value.okWide P W .any b0 t v) (h0 : DataW.Trod enc P W 0 (fun _ => true) true t v d p) :
    ∃ c : UInt8, v = .int .u8 (c.toNat : Int) := by
  obtain ⟨x, rfl, rfl, rfl, wx⟩ := open_int ht hv h0
  have := u8_bound wx
  refine ⟨UInt8.ofNat x.toNat, ?_⟩
  rw [UInt8.toNat_ofNat']
  congr 1; omega
theorem open_u16 {t : TypeId} (ht : P.underlying t = some (.int .u16)) {v : Value} {d : DataW H} {p : List MemPlace} (hv : Value.okWide P W .any b0 t v) (h0 : DataW.Trod enc P W 0 (fun _ => true) true t v d p) :
    ∃ x : Nat, v = .int .u16 (x : Int) ∧ x < 65536 := by
  obtain ⟨x, rfl, rfl, rfl, wx⟩ := open_int ht hv h0
  have := u16_bound wx
  exact ⟨x.toNat, by congr 1; omega, by omega⟩
theorem open_i64 {t : TypeId} (ht : P.underlying t = some (.int .i64)) {v : Value} {d : DataW H} {p : List MemPlace} (hv : Value.okWide P W .any b0 t v) (h0 : DataW.Trod enc P W 0 (fun _ => true) true t v d p) :
    ∃ x : Int, v = .int .i64 x ∧ -9223372036854775808 ≤ x ∧ x ≤ 9223372036854775807 := by
  obtain ⟨x, rfl, rfl, rfl, wx⟩ := open_int ht hv h0
  exact ⟨x, rfl, i64_bound wx⟩
theorem one_int {t : TypeId} {k : IntKind} (ht : P.underlying t = some (.int k)) {n : Nat} {u : Value} {y : DataW H × List MemPlace} {base : Nat} {spare : Nat → Bool} {held : Bool}
    (h : DataW.trod enc P W base spare held n t [u] = some y) : ∃ x : Int, u = .int k x ∧ (Lit.int k x).wf = true := by
  obtain ⟨a, e, _, wa⟩ := DataW.trod_int ht h
  simp at e
  exact ⟨a, e, wa⟩
end
end Go.Proofs.U
namespace Go.Proofs.U
open Go.Joins Go.ChangeShapes Go.WideShapes Go.RowKit Go.Deep
section
variable {H : Type} {enc : TypeId × Value → H} {P : Program} {w : World} {base : Nat} {spare : Nat → Bool} {held : Bool}
theorem open_agg5 {r : Reach} {b0 : Nat} {t : TypeId} {f0 f1 f2 f3 f4 : Field} {v : Value} {d : DataW H} {p : List MemPlace} (hs : P.underlying t = some (.struct #[f0, f1, f2, f3, f4])) (hone : oneCellFields P #[f0, f1, f2, f3, f4] = true) (hC : P.cellsOf t = 5)
    (hv : Value.okWide P w r b0 t v) (h : DataW.Trod enc P w base spare held t v d p) :
    ∃ (v0 v1 v2 v3 v4 : Value) (y0 y1 y2 y3 y4 : DataW H × List MemPlace) (n : Nat), v = .agg #[v0, v1, v2, v3, v4] ∧ d = .agg [y0.1, y1.1, y2.1, y3.1, y4.1] ∧ p = y0.2 ++ (y1.2 ++ (y2.2 ++ (y3.2 ++ y4.2))) ∧
      DataW.trod enc P w base spare held n f0.type [v0] = some y0 ∧ DataW.trod enc P w base spare held n f1.type [v1] = some y1 ∧ DataW.trod enc P w base spare held n f2.type [v2] = some y2 ∧ DataW.trod enc P w base spare held n f3.type [v3] = some y3 ∧ DataW.trod enc P w base spare held n f4.type [v4] = some y4 := by
  obtain ⟨cs, rfl, hsz⟩ := okWide_struct hs hv
  obtain ⟨l⟩ := cs
  match l, hsz.trans hC with
  | [c0, c1, c2, c3, c4], _ =>
    obtain ⟨fuel, hf⟩ := h
    obtain ⟨xs, n, _, hx, _, hlen, hg⟩ := DataW.trod_struct hs hf
    obtain ⟨o0, k0⟩ := hone_of hone 0 f0 rfl
    obtain ⟨o1, k1⟩ := hone_of hone 1 f1 rfl
    obtain ⟨o2, k2⟩ := hone_of hone 2 f2 rfl
    obtain ⟨o3, k3⟩ := hone_of hone 3 f3 rfl
    obtain ⟨o4, k4⟩ := hone_of hone 4 f4 rfl
    match xs, hlen with
    | [y0, y1, y2, y3, y4], _ =>
      simp only [Prod.mk.injEq] at hx
      exact ⟨c0, c1, c2, c3, c4, y0, y1, y2, y3, y4, n, rfl, by simpa using hx.1, by simpa using hx.2, by simpa [Value.cells, o0, k0] using hg 0 f0 rfl, by simpa [Value.cells, o1, k1] using hg 1 f1 rfl, by simpa [Value.cells, o2, k2] using hg 2 f2 rfl, by simpa [Value.cells, o3, k3] using hg 3 f3 rfl, by simpa [Value.cells, o4, k4] using hg 4 f4 rfl⟩

end
end Go.Proofs.U
end

section
namespace Go.Proofs.U
open Go.ChangeShapes Go.WideShapes Go.ChangeAt Go.RowKit Go.Deep
set_option linter.unusedVariables false
section
variable {H : Type} {enc : TypeId × Value → H} {P : Program} {W : World} {b0 : Nat}
theorem weightsAll_mem {e : TypeId} : ∀ {l : List (DataW H)} {j : Nat} {d : DataW H}, l[j]? = some d → ∀ n ∈ d.weights P e, n ∈ DataW.weightsAll P e l
  | [], _, _, h, _, _ => by simp at h
  | a :: l, 0, d, h, n, hn => by
    simp only [List.getElem?_cons_zero, Option.some.injEq] at h
    subst h
    simp only [DataW.weightsAll, List.mem_append]; exact .inl hn
  | a :: l, j + 1, d, h, n, hn => by
    simp only [List.getElem?_cons_succ] at h
    simp only [DataW.weightsAll, List.mem_append]; exact .inr (weightsAll_mem h n hn)

/-- an argument of type [][]byte, nil or not -/
theorem open_bss {t e q : TypeId} (ht : P.underlying t = some (.slice e)) (he : P.underlying e = some (.slice q)) (hq : P.underlying q = some (.int .u8)) (ce : P.cellsOf e = 1) (cq : P.cellsOf q = 1) (hby : P.bytesOf q = 1) {v : Value} {d : DataW H} {p : List MemPlace}
    (hv : Value.okWide P W .any b0 t v) (h0 : DataW.Trod enc P W 0 (fun _ => true) true t v d p) (hsz : ∀ n ∈ d.weights P t, n ≤ reachBytes) :
    ∃ A n c o, v = .slice A n c ∧ SS W 0 W.heap.size A n o ∧ (∀ bs ∈ o, bs.length ≤ 140737488355328) ∧ n ≤ maxLen ∧ n ≤ c := by
  obtain ⟨a0, len, cap, rfl⟩ := okWide_slice ht hv
  obtain ⟨fuel, hf⟩ := h0
  rcases open_int_rows ht he hq ce cq hf with ⟨hcs, hx⟩ | ⟨a, len', cap', A, L, C, Z, hcs, _, hl, hm, hx, hcell⟩
  · simp [Value.cells] at hcs
    obtain ⟨rfl, rfl, rfl⟩ := hcs
    exact ⟨none, 0, 0, [], rfl, SS.nil _ _ _ _, by simp, by simp, Nat.le_refl _⟩
  · simp [Value.cells] at hcs
    obtain ⟨rfl, rfl, rfl⟩ := hcs
    have hd : d = .slice ((List.range len).map fun r => intRow .u8 (A r) (L r) (Z r)) ((List.range (cap - len)).map fun j => intRow .u8 (A (len + j)) (L (len + j)) (Z (len + j))) := congrArg Prod.fst hx
    have hrow : ∀ r, r < len → L r ≤ 140737488355328 := by
      intro r hr
      obtain ⟨_, h1, _, h3, _, h5, _⟩ := hcell r (by omega)
      cases hA : A r with
      | none => have := h5 hA; omega
      | some ad =>
        have hmem : (L r + (C r - L r)) * P.bytesOf q ∈ (intRow (H := H) .u8 (A r) (L r) (Z r)).weights P e := by
          rw [hA]
          simp only [intRow, DataW.weights, he]
          have : ((lits (H := H) .u8 ((Z r).take (L r))).length + (lits (H := H) .u8 ((Z r).drop (L r))).length) = L r + (C r - L r) := by
            simp [lits, h3]; omega
          rw [this]; exact List.mem_cons_self
        have := hsz ((L r + (C r - L r)) * P.bytesOf q) (by
          rw [hd]
          simp only [DataW.weights, ht, List.mem_cons, List.mem_append]
          exact .inr (.inl (weightsAll_mem (j := r) (by simp [hr]) _ hmem)))
        rw [hby] at this
        have hre : reachBytes < 2 ^ 47 := reachBytes_lt
        omega
    refine ⟨_, _, _, (List.range len).map fun r => ((Z r).take (L r)).map fun x => UInt8.ofNat x.toNat, rfl, ⟨by simp, fun hn => ?_⟩, ?_, by omega, hl⟩
    · have hcell0 := (hcell 0 (by omega)).1
      obtain ⟨b, off, spot⟩ := a
      have hspot : spot = none := by simpa [Addr.add] using World.cell?_spot hcell0
      subst hspot
      rw [addr_add] at hcell0
      refine ⟨b, off, rfl, Nat.zero_le _, World.block_lt_of_cell? W _ hcell0, fun j bs hj => ?_⟩
      obtain ⟨hjl, rfl⟩ := List.getElem?_eq_some_iff.1 hj
      simp only [List.length_map, List.length_range] at hjl
      simp only [List.getElem_map, List.getElem_range]
      obtain ⟨h0, h1, h2, h3, h4, h5, h6⟩ := hcell j (by omega)
      rw [addr_add] at h0
      have hlen : (((Z j).take (L j)).map fun x => UInt8.ofNat x.toNat).length = L j := by simp [h3]; omega
      refine ⟨A j, C j, by rw [hlen]; exact h0, by rw [hlen]; exact h1, ⟨rfl, fun hn' => ?_⟩, fun _ _ _ => Nat.zero_le _⟩
      rw [hlen] at hn'
      cases hA : A j with
      | none => have := h5 hA; omega
      | some ad =>
        obtain ⟨_, hc⟩ := h6 ad hA
        have hc0 := hc 0 (by omega)
        obtain ⟨b', off', spot'⟩ := ad
        have hspot : spot' = none := by simpa [Addr.add] using World.cell?_spot hc0
        subst hspot
        have hc' : ∀ i, i < C j → W.cell? ⟨b', off' + i, none⟩ = some (.int .u8 ((Z j).getD i 0)) := fun i hi => by rw [← addr_add]; exact hc i hi
        refine ⟨b', off', rfl, World.block_lt_of_cell? W _ (hc' 0 (by omega)), fun i hi => ?_⟩
        rw [hlen] at hi
        have hi2 : i < (Z j).length := by omega
        rw [hc' i (by omega)]
        have hbd := u8_bound (h4 _ (List.getElem_mem hi2))
        simp [List.getD, hi2]
        omega
    · intro bs hbs
      simp only [List.mem_map, List.mem_range] at hbs
      obtain ⟨r, hr, rfl⟩ := hbs
      have := hrow r hr
      simp; omega

/-- an argument of type []uint16, nil or not -/
theorem open_u16s {t e : TypeId} (ht : P.underlying t = some (.slice e)) (he : P.underlying e = some (.int .u16)) (hc : P.cellsOf e = 1) {v : Value} {d : DataW H} {p : List MemPlace}
    (hv : Value.okWide P W .any b0 t v) (h0 : DataW.Trod enc P W 0 (fun _ => true) true t v d p) :
    ∃ A n c, ∃ zs : List Nat, v = .slice A n c ∧ VS W W.heap.size A n (zs.map fun (z : Nat) => Value.int .u16 (z : Int)) ∧ (∀ z ∈ zs, z < 65536) ∧ n ≤ maxLen ∧ n ≤ c := by
  obtain ⟨a0, len, cap, rfl⟩ := okWide_slice ht hv
  obtain ⟨fuel, hf⟩ := h0
  rcases open_ints ht he hc hf with ⟨hcs, hx⟩ | ⟨a, len', cap', zs, hcs, _, hl, hm, hz, hx, hcell, hwz⟩
  · simp [Value.cells] at hcs
    obtain ⟨rfl, rfl, rfl⟩ := hcs
    exact ⟨none, 0, 0, [], rfl, VS.nil _ _ _, by simp, by simp, Nat.le_refl _⟩
  · simp [Value.cells] at hcs
    obtain ⟨rfl, rfl, rfl⟩ := hcs
    simp only [if_true] at hz
    have hzl : ∀ z ∈ zs, 0 ≤ z ∧ z < 65536 := fun z hz => u16_bound (hwz z hz)
    refine ⟨_, _, _, (zs.take len).map Int.toNat, rfl, ⟨by simp; omega, fun hn => ?_⟩, ?_, by omega, hl⟩
    · have hcell0 := hcell 0 (by omega)
      obtain ⟨b, off, spot⟩ := a
      have hspot : spot = none := by simpa [Addr.add] using World.cell?_spot hcell0
      subst hspot
      have hcell' : ∀ i, i < zs.length → W.cell? ⟨b, off + i, none⟩ = some (.int .u16 (zs.getD i 0)) := fun i hi => by rw [← addr_add]; exact hcell i hi
      refine ⟨b, off, rfl, World.block_lt_of_cell? W _ (hcell' 0 (by omega)), fun j hj => ?_⟩
      have hj2 : j < zs.length := by simp at hj; omega
      rw [hcell' j hj2]
      have := hzl _ (List.getElem_mem hj2)
      simp [List.getD, hj2]
      omega
    · intro z hz
      simp only [List.mem_map] at hz
      obtain ⟨x, hx, rfl⟩ := hz
      have := hzl x (List.mem_of_mem_take hx)
      omega
/-- an argument of type []byte, with its reach -/
theorem open_rbs {t e : TypeId} (ht : P.underlying t = some (.slice e)) (he : P.underlying e = some (.int .u8)) (hc : P.cellsOf e = 1) (hby : P.bytesOf e = 1) {v : Value} {d : DataW H} {p : List MemPlace}
    (hv : Value.okWide P W .any b0 t v) (h0 : DataW.Trod enc P W 0 (fun _ => true) true t v d p) (hsz : ∀ n ∈ d.weights P t, n ≤ reachBytes) :
    ∃ A n c bs, v = .slice A n c ∧ BS W W.heap.size A n bs ∧ n ≤ maxLen ∧ n ≤ c ∧ n ≤ 140737488355328 := by
  obtain ⟨A, n, c, bs, rfl, hb, hm, hcc⟩ := open_bs ht he hc hv h0
  refine ⟨A, n, c, bs, rfl, hb, hm, hcc, ?_⟩
  obtain ⟨fuel, hf⟩ := h0
  rcases open_ints ht he hc hf with ⟨hcs, hx⟩ | ⟨a, len', cap', zs, hcs, _, hl, hm', hz, hx, hcell, hwz⟩
  · simp [Value.cells] at hcs
    omega
  · simp [Value.cells] at hcs
    obtain ⟨rfl, rfl, rfl⟩ := hcs
    simp only [if_true] at hz
    have hd := congrArg Prod.fst hx
    simp only at hd
    have := hsz ((n + (c - n)) * P.bytesOf e) (by
      rw [hd]
      simp only [DataW.weights, ht]
      have : ((lits (H := H) .u8 (zs.take n)).length + (lits (H := H) .u8 (zs.drop n)).length) = n + (c - n) := by simp [lits, hz]; omega
      rw [this]; exact List.mem_cons_self)
    rw [hby] at this
    have hre : reachBytes < 2 ^ 47 := reachBytes_lt
    omega
end
end Go.Proofs.U
end
