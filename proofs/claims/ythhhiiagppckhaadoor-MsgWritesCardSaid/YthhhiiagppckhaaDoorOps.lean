/- Opening a statement's arguments: slices of slices of bytes, slices of 16-bit words. -/
import Derived.Test.YthhhiiagppckhaaDoorOp
import Derived.Test.YthhhiiagppckhaaDoorSs
import Derived.Deep.Matrix
import Derived.SizedLaws
namespace Go.Proofs.U
open Go.ChangeShapes Go.WideShapes Go.ChangeAt Go.RowKit Go.Deep
set_option linter.unusedVariables false
section
variable {H : Type} {enc : TypeId × Value → H} {P : Program} {W : World} {b0 : Nat}
theorem weightsAll_mem {e : TypeId} : ∀ {l : List (DataW H)} {j : Nat} {d : DataW H}, l[j]? = some d → ∀ n ∈ d.weights P e, n ∈ DataW.weightsAll P e l
  | [], _, _, h, _, _ => by simp at h
  | a :: l, 0, d, h, n, hn => by
    simp only [List.getElem?_cons_zero, Option.some.injEq] at h
    subst h
    simp only [DataW.weightsAll, List.mem_append]; exact .inl hn
  | a :: l, j + 1, d, h, n, hn => by
    simp only [List.getElem?_cons_succ] at h
    simp only [DataW.weightsAll, List.mem_append]; exact .inr (weightsAll_mem h n hn)

/-- an argument of type [][]byte, nil or not -/
theorem open_bss {t e q : TypeId} (ht : P.underlying t = some (.slice e)) (he : P.underlying e = some (.slice q)) (hq : P.underlying q = some (.int .u8)) (ce : P.cellsOf e = 1) (cq : P.cellsOf q = 1) (hby : P.bytesOf q = 1) {v : Value} {d : DataW H} {p : List MemPlace}
    (hv : Value.okWide P W .any b0 t v) (h0 : DataW.Trod enc P W 0 (fun _ => true) true t v d p) (hsz : ∀ n ∈ d.weights P t, n ≤ reachBytes) :
    ∃ A n c o, v = .slice A n c ∧ SS W 0 W.heap.size A n o ∧ (∀ bs ∈ o, bs.length ≤ 140737488355328) ∧ n ≤ maxLen ∧ n ≤ c := by
  obtain ⟨a0, len, cap, rfl⟩ := okWide_slice ht hv
  obtain ⟨fuel, hf⟩ := h0
  rcases open_int_rows ht he hq ce cq hf with ⟨hcs, hx⟩ | ⟨a, len', cap', A, L, C, Z, hcs, _, hl, hm, hx, hcell⟩
  · simp [Value.cells] at hcs
    obtain ⟨rfl, rfl, rfl⟩ := hcs
    exact ⟨none, 0, 0, [], rfl, SS.nil _ _ _ _, by simp, by simp, Nat.le_refl _⟩
  · simp [Value.cells] at hcs
    obtain ⟨rfl, rfl, rfl⟩ := hcs
    have hd : d = .slice ((List.range len).map fun r => intRow .u8 (A r) (L r) (Z r)) ((List.range (cap - len)).map fun j => intRow .u8 (A (len + j)) (L (len + j)) (Z (len + j))) := congrArg Prod.fst hx
    have hrow : ∀ r, r < len → L r ≤ 140737488355328 := by
      intro r hr
      obtain ⟨_, h1, _, h3, _, h5, _⟩ := hcell r (by omega)
      cases hA : A r with
      | none => have := h5 hA; omega
      | some ad =>
        have hmem : (L r + (C r - L r)) * P.bytesOf q ∈ (intRow (H := H) .u8 (A r) (L r) (Z r)).weights P e := by
          rw [hA]
          simp only [intRow, DataW.weights, he]
          have : ((lits (H := H) .u8 ((Z r).take (L r))).length + (lits (H := H) .u8 ((Z r).drop (L r))).length) = L r + (C r - L r) := by
            simp [lits, h3]; omega
          rw [this]; exact List.mem_cons_self
        have := hsz ((L r + (C r - L r)) * P.bytesOf q) (by
          rw [hd]
          simp only [DataW.weights, ht, List.mem_cons, List.mem_append]
          exact .inr (.inl (weightsAll_mem (j := r) (by simp [hr]) _ hmem)))
        rw [hby] at this
        have hre : reachBytes < 2 ^ 47 := reachBytes_lt
        omega
    refine ⟨_, _, _, (List.range len).map fun r => ((Z r).take (L r)).map fun x => UInt8.ofNat x.toNat, rfl, ⟨by simp, fun hn => ?_⟩, ?_, by omega, hl⟩
    · have hcell0 := (hcell 0 (by omega)).1
      obtain ⟨b, off, spot⟩ := a
      have hspot : spot = none := by simpa [Addr.add] using World.cell?_spot hcell0
      subst hspot
      rw [addr_add] at hcell0
      refine ⟨b, off, rfl, Nat.zero_le _, World.block_lt_of_cell? W _ hcell0, fun j bs hj => ?_⟩
      obtain ⟨hjl, rfl⟩ := List.getElem?_eq_some_iff.1 hj
      simp only [List.length_map, List.length_range] at hjl
      simp only [List.getElem_map, List.getElem_range]
      obtain ⟨h0, h1, h2, h3, h4, h5, h6⟩ := hcell j (by omega)
      rw [addr_add] at h0
      have hlen : (((Z j).take (L j)).map fun x => UInt8.ofNat x.toNat).length = L j := by simp [h3]; omega
      refine ⟨A j, C j, by rw [hlen]; exact h0, by rw [hlen]; exact h1, ⟨rfl, fun hn' => ?_⟩, fun _ _ _ => Nat.zero_le _⟩
      rw [hlen] at hn'
      cases hA : A j with
      | none => have := h5 hA; omega
      | some ad =>
        obtain ⟨_, hc⟩ := h6 ad hA
        have hc0 := hc 0 (by omega)
        obtain ⟨b', off', spot'⟩ := ad
        have hspot : spot' = none := by simpa [Addr.add] using World.cell?_spot hc0
        subst hspot
        have hc' : ∀ i, i < C j → W.cell? ⟨b', off' + i, none⟩ = some (.int .u8 ((Z j).getD i 0)) := fun i hi => by rw [← addr_add]; exact hc i hi
        refine ⟨b', off', rfl, World.block_lt_of_cell? W _ (hc' 0 (by omega)), fun i hi => ?_⟩
        rw [hlen] at hi
        have hi2 : i < (Z j).length := by omega
        rw [hc' i (by omega)]
        have hbd := u8_bound (h4 _ (List.getElem_mem hi2))
        simp [List.getD, hi2]
        omega
    · intro bs hbs
      simp only [List.mem_map, List.mem_range] at hbs
      obtain ⟨r, hr, rfl⟩ := hbs
      have := hrow r hr
      simp; omega

/-- an argument of type []uint16, nil or not -/
theorem open_u16s {t e : TypeId} (ht : P.underlying t = some (.slice e)) (he : P.underlying e = some (.int .u16)) (hc : P.cellsOf e = 1) {v : Value} {d : DataW H} {p : List MemPlace}
    (hv : Value.okWide P W .any b0 t v) (h0 : DataW.Trod enc P W 0 (fun _ => true) true t v d p) :
    ∃ A n c, ∃ zs : List Nat, v = .slice A n c ∧ VS W W.heap.size A n (zs.map fun (z : Nat) => Value.int .u16 (z : Int)) ∧ (∀ z ∈ zs, z < 65536) ∧ n ≤ maxLen ∧ n ≤ c := by
  obtain ⟨a0, len, cap, rfl⟩ := okWide_slice ht hv
  obtain ⟨fuel, hf⟩ := h0
  rcases open_ints ht he hc hf with ⟨hcs, hx⟩ | ⟨a, len', cap', zs, hcs, _, hl, hm, hz, hx, hcell, hwz⟩
  · simp [Value.cells] at hcs
    obtain ⟨rfl, rfl, rfl⟩ := hcs
    exact ⟨none, 0, 0, [], rfl, VS.nil _ _ _, by simp, by simp, Nat.le_refl _⟩
  · simp [Value.cells] at hcs
    obtain ⟨rfl, rfl, rfl⟩ := hcs
    simp only [if_true] at hz
    have hzl : ∀ z ∈ zs, 0 ≤ z ∧ z < 65536 := fun z hz => u16_bound (hwz z hz)
    refine ⟨_, _, _, (zs.take len).map Int.toNat, rfl, ⟨by simp; omega, fun hn => ?_⟩, ?_, by omega, hl⟩
    · have hcell0 := hcell 0 (by omega)
      obtain ⟨b, off, spot⟩ := a
      have hspot : spot = none := by simpa [Addr.add] using World.cell?_spot hcell0
      subst hspot
      have hcell' : ∀ i, i < zs.length → W.cell? ⟨b, off + i, none⟩ = some (.int .u16 (zs.getD i 0)) := fun i hi => by rw [← addr_add]; exact hcell i hi
      refine ⟨b, off, rfl, World.block_lt_of_cell? W _ (hcell' 0 (by omega)), fun j hj => ?_⟩
      have hj2 : j < zs.length := by simp at hj; omega
      rw [hcell' j hj2]
      have := hzl _ (List.getElem_mem hj2)
      simp [List.getD, hj2]
      omega
    · intro z hz
      simp only [List.mem_map] at hz
      obtain ⟨x, hx, rfl⟩ := hz
      have := hzl x (List.mem_of_mem_take hx)
      omega
/-- an argument of type []byte, with its reach -/
theorem open_rbs {t e : TypeId} (ht : P.underlying t = some (.slice e)) (he : P.underlying e = some (.int .u8)) (hc : P.cellsOf e = 1) (hby : P.bytesOf e = 1) {v : Value} {d : DataW H} {p : List MemPlace}
    (hv : Value.okWide P W .any b0 t v) (h0 : DataW.Trod enc P W 0 (fun _ => true) true t v d p) (hsz : ∀ n ∈ d.weights P t, n ≤ reachBytes) :
    ∃ A n c bs, v = .slice A n c ∧ BS W W.heap.size A n bs ∧ n ≤ maxLen ∧ n ≤ c ∧ n ≤ 140737488355328 := by
  obtain ⟨A, n, c, bs, rfl, hb, hm, hcc⟩ := open_bs ht he hc hv h0
  refine ⟨A, n, c, bs, rfl, hb, hm, hcc, ?_⟩
  obtain ⟨fuel, hf⟩ := h0
  rcases open_ints ht he hc hf with ⟨hcs, hx⟩ | ⟨a, len', cap', zs, hcs, _, hl, hm', hz, hx, hcell, hwz⟩
  · simp [Value.cells] at hcs
    omega
  · simp [Value.cells] at hcs
    obtain ⟨rfl, rfl, rfl⟩ := hcs
    simp only [if_true] at hz
    have hd := congrArg Prod.fst hx
    simp only at hd
    have := hsz ((n + (c - n)) * P.bytesOf e) (by
      rw [hd]
      simp only [DataW.weights, ht]
      have : ((lits (H := H) .u8 (zs.take n)).length + (lits (H := H) .u8 (zs.drop n)).length) = n + (c - n) := by simp [lits, hz]; omega
      rw [this]; exact List.mem_cons_self)
    rw [hby] at this
    have hre : reachBytes < 2 ^ 47 := reachBytes_lt
    omega
end
end Go.Proofs.U
