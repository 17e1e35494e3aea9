/- Errors: trees in memory; what is wrapped; conditions: none beyond their hypotheses. -/
import Derived.Test.YthhhiiagppckhaaDoorBe5
import Derived.Test.YthhhiiagppckhaaDoorBp
namespace Go.Proofs.YthhhiiagppckhaaDoor
open Go.RowKit Go.Proofs.U Go.Proofs.Bp
set_option linter.unusedVariables false

/-- a blame's block: what it says, and the errors under it; its blocks are of N -/
def BlmAtN (N : Nat → Prop) (w : World) (g : Nat) (o p : List UInt8) (both : Bool) (us : List Value) : Prop :=
  ∃ gu, w.cell? ⟨g, 0, none⟩ = some (.string (strOf o)) ∧ w.cell? ⟨g, 1, none⟩ = some (.string (strOf p)) ∧ w.cell? ⟨g, 2, none⟩ = some (.bool both) ∧ w.cell? ⟨g, 3, none⟩ = some (.slice (some ⟨gu, 0, none⟩) us.length us.length) ∧
    gu < w.heap.size ∧ (∀ j u, us[j]? = some u → w.cell? ⟨gu, j, none⟩ = some u) ∧ N g ∧ N gu
abbrev BlmAt := BlmAtN (fun _ => True)
theorem BlmAtN.below {N : Nat → Prop} {w w' : World} {g : Nat} {o p : List UInt8} {both : Bool} {us : List Value} (h : BlmAtN N w g o p both us) (hb : Below w.heap.size w w') : BlmAtN N w' g o p both us := by
  obtain ⟨gu, h0, h1, h2, h3, hl, hu, n1, n2⟩ := h
  exact ⟨gu, cell_below h0 hb, cell_below h1 hb, cell_below h2 hb, cell_below h3 hb, Nat.lt_of_lt_of_le hl hb.size, fun j u hj => cell_below (hu j u hj) hb, n1, n2⟩
theorem BlmAtN.grown {N : Nat → Prop} {w w' : World} {g : Nat} {o p : List UInt8} {both : Bool} {us : List Value} {row : Option Nat} (h : BlmAtN N w g o p both us) (hg : w.grownBy w' row) (hN : ∀ b, N b → some b ≠ row) : BlmAtN N w' g o p both us := by
  obtain ⟨gu, h0, h1, h2, h3, hl, hu, n1, n2⟩ := h
  have hgl := World.block_lt_of_cell? w _ h0
  have k1 : ∀ i v, w.cell? ⟨g, i, none⟩ = some v → w'.cell? ⟨g, i, none⟩ = some v := fun i v hv => (World.cell?_of_block (hg.block g hgl (hN g n1))).trans hv
  exact ⟨gu, k1 _ _ h0, k1 _ _ h1, k1 _ _ h2, k1 _ _ h3, Nat.lt_of_lt_of_le hl hg.size, fun j u hj => (World.cell?_of_block (hg.block gu hl (hN gu n2))).trans (hu j u hj), n1, n2⟩
theorem BlmAtN.weak {N M : Nat → Prop} {w : World} {g : Nat} {o p : List UInt8} {both : Bool} {us : List Value} (h : BlmAtN N w g o p both us) (hM : ∀ b, N b → b < w.heap.size → M b) : BlmAtN M w g o p both us := by
  obtain ⟨gu, h0, h1, h2, h3, hl, hu, n1, n2⟩ := h
  exact ⟨gu, h0, h1, h2, h3, hl, hu, hM g n1 (World.block_lt_of_cell? w _ h0), hM gu n2 hl⟩
theorem BlmAt.vs {w : World} {g gu : Nat} {us : List Value} (hl : gu < w.heap.size) (hu : ∀ j u, us[j]? = some u → w.cell? ⟨gu, j, none⟩ = some u) : VS w w.heap.size (some ⟨gu, 0, none⟩) us.length us :=
  ⟨rfl, fun hn => ⟨gu, 0, rfl, hl, fun j hj => by rw [Nat.zero_add]; exact hu j us[j] (by simp)⟩⟩

def subs : Er → List Er
  | .nil => []
  | .code _ => []
  | .one _ _ e => [e]
  | .two a b => [a, b]
def siz : Er → Nat
  | .nil => 1
  | .code _ => 1
  | .one _ _ e => siz e + 1
  | .two a b => siz a + siz b + 1
theorem subs_lt {e x : Er} (h : x ∈ subs e) : siz x < siz e := by
  cases e with
  | nil => cases h
  | code c => cases h
  | one o p e => simp only [subs, List.mem_singleton] at h; subst h; simp [siz]
  | two a b =>
    simp only [subs, List.mem_cons, List.not_mem_nil, or_false] at h
    rcases h with rfl | rfl <;> simp [siz] <;> omega
def bop : Er → List UInt8
  | .one o _ _ => o
  | _ => []
def bpath : Er → List UInt8
  | .one _ p _ => p
  | _ => []
def bboth : Er → Bool
  | .two _ _ => true
  | _ => false
def isBl : Er → Prop
  | .one _ _ _ => True
  | .two _ _ => True
  | _ => False
/-- an error in memory, its blocks of N -/
def ErVn (N : Nat → Prop) (w : World) : Er → Value → Prop
  | .nil, v => v = .nilIface
  | .code c, v => v = .iface 23 (.int .i64 c)
  | .one o p e, v => ∃ g u, v = .iface 60 (.pointer (some ⟨g, 0, none⟩)) ∧ BlmAtN N w g o p false [u] ∧ ErVn N w e u
  | .two a b, v => ∃ g u1 u2, v = .iface 60 (.pointer (some ⟨g, 0, none⟩)) ∧ BlmAtN N w g [] [] true [u1, u2] ∧ ErVn N w a u1 ∧ ErVn N w b u2
abbrev ErV := ErVn (fun _ => True)
theorem ErVn.below {N : Nat → Prop} {w w' : World} (hb : Below w.heap.size w w') : ∀ {e : Er} {v : Value}, ErVn N w e v → ErVn N w' e v
  | .nil, v, h => h
  | .code c, v, h => h
  | .one o p e, v, h => by
    obtain ⟨g, u, hv, hk, hu⟩ := h
    exact ⟨g, u, hv, hk.below hb, ErVn.below hb hu⟩
  | .two a b, v, h => by
    obtain ⟨g, u1, u2, hv, hk, h1, h2⟩ := h
    exact ⟨g, u1, u2, hv, hk.below hb, ErVn.below hb h1, ErVn.below hb h2⟩
theorem ErVn.grown {N : Nat → Prop} {w w' : World} {row : Option Nat} (hg : w.grownBy w' row) (hN : ∀ b, N b → some b ≠ row) : ∀ {e : Er} {v : Value}, ErVn N w e v → ErVn N w' e v
  | .nil, v, h => h
  | .code c, v, h => h
  | .one o p e, v, h => by
    obtain ⟨g, u, hv, hk, hu⟩ := h
    exact ⟨g, u, hv, hk.grown hg hN, ErVn.grown hg hN hu⟩
  | .two a b, v, h => by
    obtain ⟨g, u1, u2, hv, hk, h1, h2⟩ := h
    exact ⟨g, u1, u2, hv, hk.grown hg hN, ErVn.grown hg hN h1, ErVn.grown hg hN h2⟩
theorem ErVn.weak {N M : Nat → Prop} {w : World} (hM : ∀ b, N b → b < w.heap.size → M b) : ∀ {e : Er} {v : Value}, ErVn N w e v → ErVn M w e v
  | .nil, v, h => h
  | .code c, v, h => h
  | .one o p e, v, h => by
    obtain ⟨g, u, hv, hk, hu⟩ := h
    exact ⟨g, u, hv, hk.weak hM, ErVn.weak hM hu⟩
  | .two a b, v, h => by
    obtain ⟨g, u1, u2, hv, hk, h1, h2⟩ := h
    exact ⟨g, u1, u2, hv, hk.weak hM, ErVn.weak hM h1, ErVn.weak hM h2⟩
theorem ErVn.ev {N : Nat → Prop} {w : World} {e : Er} {v : Value} (h : ErVn N w e v) : ErV w e v := ErVn.weak (fun _ _ _ => trivial) h
theorem ErV.below {w w' : World} (hb : Below w.heap.size w w') {e : Er} {v : Value} (h : ErV w e v) : ErV w' e v := ErVn.below hb h
/-- a blame: its block, and the trees under it -/
theorem ErV.bl {w : World} {e : Er} {v : Value} (h : ErV w e v) (hb : isBl e) : ∃ g us, v = .iface 60 (.pointer (some ⟨g, 0, none⟩)) ∧ BlmAt w g (bop e) (bpath e) (bboth e) us ∧ us.length = (subs e).length ∧
    ∀ (j : Nat) (u : Value) (x : Er), us[j]? = some u → (subs e)[j]? = some x → ErV w x u := by
  cases e with
  | nil => exact hb.elim
  | code c => exact hb.elim
  | one o p e =>
    obtain ⟨g, u, hv, hk, hu⟩ := h
    refine ⟨g, [u], hv, hk, rfl, fun j u' x h1 h2 => ?_⟩
    match j, h1, h2 with
    | 0, h1, h2 => simp [subs] at h1 h2; subst h1 h2; exact hu
    | j + 1, h1, h2 => simp at h1
  | two a b =>
    obtain ⟨g, u1, u2, hv, hk, ha, hb'⟩ := h
    refine ⟨g, [u1, u2], hv, hk, rfl, fun j u' x h1 h2 => ?_⟩
    match j, h1, h2 with
    | 0, h1, h2 => simp [subs] at h1 h2; subst h1 h2; exact ha
    | 1, h1, h2 => simp [subs] at h1 h2; subst h1 h2; exact hb'
    | j + 2, h1, h2 => simp at h1
theorem ErVn.one {N : Nat → Prop} {w : World} : ∀ {e : Er} {v : Value}, ErVn N w e v → v.oneCell' = true
  | .nil, v, h => by rw [show v = .nilIface from h]; rfl
  | .code c, v, h => by rw [show v = _ from h]; rfl
  | .one o p e, v, h => by obtain ⟨g, u, hv, _⟩ := h; rw [hv]; rfl
  | .two a b, v, h => by obtain ⟨g, u1, u2, hv, _⟩ := h; rw [hv]; rfl
theorem ErV.one {w : World} {e : Er} {v : Value} (h : ErV w e v) : v.oneCell' = true := ErVn.one h
theorem infoErr : (Tryd.prog.info? 48).map (fun i => (i.zero, i.size, i.bytes)) = some (some .nilIface, 1, 16) := by kernel_rfl

/-- errors that the call made a row of -/
def UnwRet (w : World) (us : List Value) (e : Ending) (w' : World) : Prop := ∃ A c, e = .returned (.slice A us.length c) ∧ VS w' w'.heap.size A us.length us ∧ Below w.heap.size w w' ∧ ∀ a, A = some a → w.heap.size ≤ a.block
set_option maxRecDepth 100000 in
set_option maxHeartbeats 4000000 in
theorem unwrap_any (g : Nat) (o p : List UInt8) (both : Bool) (us : List Value) (w : World) (h : BlmAt w g o p both us) (h1 : ∀ u ∈ us, u.oneCell' = true) (hn : us.length ≤ 1000) :
    Calls Tryd.prog 32 #[.pointer (some ⟨g, 0, none⟩)] w (UnwRet w us) := by
  obtain ⟨gu, -, -, -, h3, hl, hu, -, -⟩ := h
  have hvs := BlmAt.vs (g := g) hl hu
  obtain ⟨n, hnn⟩ : ∃ n, n = us.length := ⟨_, rfl⟩
  rw [← hnn] at h3 hn hvs
  have HN := Lib.hid hnn
  have HU := Lib.hid hu
  clear hu hnn
  have hq : (0 + n) * 16 ≤ 140737488355328 := by omega
  have hq2 : 0 + n ≤ maxLen := by unfold maxLen; omega
  go_enter Tryd.func32, Tryd.ntmps32
  go_wp2_with (at_builtin; refine wpList_appv Tryd.underlying45 infoErr rfl rfl _ _ rfl w.heap.size none 0 0 [] rfl (World.ownsRow_nil w _ _ 1) _ _ n n us rfl hvs h1 hq hq2 (Nat.le_refl _) ?_; intro A2 c2 w2 hown2 hg2 _)
  go_ret
  refine ⟨A2, c2, ?_, ?_, ?_, fun a ha => (World.ownsRow.lt hown2 a.block (by rw [ha]; rfl)).1⟩
  · rw [← HN.out]; simp
  · rw [← HN.out]
    have := ownsRow_vs hown2
    simpa using this
  · exact below_row (Below.refl _ _) (Nat.le_refl _) (World.ownsRow_nil w w.heap.size 48 1) (Nat.le_refl _) hg2
theorem unwrapNil_any (w : World) : Calls Tryd.prog 32 #[.pointer none] w fun e w' => e = .returned (.slice none 0 0) ∧ w = w' := by
  go_enter Tryd.func32, Tryd.ntmps32
  go_wp2_with fail
  go_ret
  exact ⟨rfl, rfl⟩
end Go.Proofs.YthhhiiagppckhaaDoor
