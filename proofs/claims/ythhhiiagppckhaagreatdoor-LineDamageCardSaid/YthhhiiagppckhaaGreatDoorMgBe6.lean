/- Errors: trees in memory; what is wrapped; conditions: none beyond their hypotheses. Errors: errors.As, Codes and Code; conditions: none beyond their hypotheses. The walks of blame.Of; conditions: none beyond their hypotheses. The walk of Unwrap; conditions: none beyond their hypotheses. -/
import Derived.Test.YthhhiiagppckhaaGreatDoorMgBe5
import Derived.Test.YthhhiiagppckhaaGreatDoorMgBp
import Derived.Test.YthhhiiagppckhaaGreatDoorMgBe3
import Derived.Test.YthhhiiagppckhaaGreatDoorMgBe4
import Derived.Deep.LoopGhost
set_option linter.unusedSimpArgs false
set_option linter.unusedVariables false
section
namespace Go.Proofs.YthhhiiagppckhaaGreatDoor
open Go.RowKit Go.Proofs.U Go.Proofs.Bp
set_option linter.unusedVariables false

/-- a blame's block: what it says, and the errors under it; its blocks are of N -/
def BlmAtN (N : Nat → Prop) (w : World) (g : Nat) (o p : List UInt8) (both : Bool) (us : List Value) : Prop :=
  ∃ gu, w.cell? ⟨g, 0, none⟩ = some (.string (strOf o)) ∧ w.cell? ⟨g, 1, none⟩ = some (.string (strOf p)) ∧ w.cell? ⟨g, 2, none⟩ = some (.bool both) ∧ w.cell? ⟨g, 3, none⟩ = some (.slice (some ⟨gu, 0, none⟩) us.length us.length) ∧
    gu < w.heap.size ∧ (∀ j u, us[j]? = some u → w.cell? ⟨gu, j, none⟩ = some u) ∧ N g ∧ N gu
abbrev BlmAt := BlmAtN (fun _ => True)
theorem BlmAtN.below {N : Nat → Prop} {w w' : World} {g : Nat} {o p : List UInt8} {both : Bool} {us : List Value} (h : BlmAtN N w g o p both us) (hb : Below w.heap.size w w') : BlmAtN N w' g o p both us := by
  obtain ⟨gu, h0, h1, h2, h3, hl, hu, n1, n2⟩ := h
  exact ⟨gu, cell_below h0 hb, cell_below h1 hb, cell_below h2 hb, cell_below h3 hb, Nat.lt_of_lt_of_le hl hb.size, fun j u hj => cell_below (hu j u hj) hb, n1, n2⟩
theorem BlmAtN.grown {N : Nat → Prop} {w w' : World} {g : Nat} {o p : List UInt8} {both : Bool} {us : List Value} {row : Option Nat} (h : BlmAtN N w g o p both us) (hg : w.grownBy w' row) (hN : ∀ b, N b → some b ≠ row) : BlmAtN N w' g o p both us := by
  obtain ⟨gu, h0, h1, h2, h3, hl, hu, n1, n2⟩ := h
  have hgl := World.block_lt_of_cell? w _ h0
  have k1 : ∀ i v, w.cell? ⟨g, i, none⟩ = some v → w'.cell? ⟨g, i, none⟩ = some v := fun i v hv => (World.cell?_of_block (hg.block g hgl (hN g n1))).trans hv
  exact ⟨gu, k1 _ _ h0, k1 _ _ h1, k1 _ _ h2, k1 _ _ h3, Nat.lt_of_lt_of_le hl hg.size, fun j u hj => (World.cell?_of_block (hg.block gu hl (hN gu n2))).trans (hu j u hj), n1, n2⟩
theorem BlmAtN.weak {N M : Nat → Prop} {w : World} {g : Nat} {o p : List UInt8} {both : Bool} {us : List Value} (h : BlmAtN N w g o p both us) (hM : ∀ b, N b → b < w.heap.size → M b) : BlmAtN M w g o p both us := by
  obtain ⟨gu, h0, h1, h2, h3, hl, hu, n1, n2⟩ := h
  exact ⟨gu, h0, h1, h2, h3, hl, hu, hM g n1 (World.block_lt_of_cell? w _ h0), hM gu n2 hl⟩
theorem BlmAt.vs {w : World} {g gu : Nat} {us : List Value} (hl : gu < w.heap.size) (hu : ∀ j u, us[j]? = some u → w.cell? ⟨gu, j, none⟩ = some u) : VS w w.heap.size (some ⟨gu, 0, none⟩) us.length us :=
  ⟨rfl, fun hn => ⟨gu, 0, rfl, hl, fun j hj => by rw [Nat.zero_add]; exact hu j us[j] (by simp)⟩⟩

def subs : Er → List Er
  | .nil => []
  | .code _ => []
  | .one _ _ e => [e]
  | .two a b => [a, b]
def siz : Er → Nat
  | .nil => 1
  | .code _ => 1
  | .one _ _ e => siz e + 1
  | .two a b => siz a + siz b + 1
theorem subs_lt {e x : Er} (h : x ∈ subs e) : siz x < siz e := by
  cases e with
  | nil => cases h
  | code c => cases h
  | one o p e => simp only [subs, List.mem_singleton] at h; subst h; simp [siz]
  | two a b =>
    simp only [subs, List.mem_cons, List.not_mem_nil, or_false] at h
    rcases h with rfl | rfl <;> simp [siz] <;> omega
def bop : Er → List UInt8
  | .one o _ _ => o
  | _ => []
def bpath : Er → List UInt8
  | .one _ p _ => p
  | _ => []
def bboth : Er → Bool
  | .two _ _ => true
  | _ => false
def isBl : Er → Prop
  | .one _ _ _ => True
  | .two _ _ => True
  | _ => False
/-- an error in memory, its blocks of N -/
def ErVn (N : Nat → Prop) (w : World) : Er → Value → Prop
  | .nil, v => v = .nilIface
  | .code c, v => v = .iface 23 (.int .i64 c)
  | .one o p e, v => ∃ g u, v = .iface 122 (.pointer (some ⟨g, 0, none⟩)) ∧ BlmAtN N w g o p false [u] ∧ ErVn N w e u
  | .two a b, v => ∃ g u1 u2, v = .iface 122 (.pointer (some ⟨g, 0, none⟩)) ∧ BlmAtN N w g [] [] true [u1, u2] ∧ ErVn N w a u1 ∧ ErVn N w b u2
abbrev ErV := ErVn (fun _ => True)
theorem ErVn.below {N : Nat → Prop} {w w' : World} (hb : Below w.heap.size w w') : ∀ {e : Er} {v : Value}, ErVn N w e v → ErVn N w' e v
  | .nil, v, h => h
  | .code c, v, h => h
  | .one o p e, v, h => by
    obtain ⟨g, u, hv, hk, hu⟩ := h
    exact ⟨g, u, hv, hk.below hb, ErVn.below hb hu⟩
  | .two a b, v, h => by
    obtain ⟨g, u1, u2, hv, hk, h1, h2⟩ := h
    exact ⟨g, u1, u2, hv, hk.below hb, ErVn.below hb h1, ErVn.below hb h2⟩
theorem ErVn.grown {N : Nat → Prop} {w w' : World} {row : Option Nat} (hg : w.grownBy w' row) (hN : ∀ b, N b → some b ≠ row) : ∀ {e : Er} {v : Value}, ErVn N w e v → ErVn N w' e v
  | .nil, v, h => h
  | .code c, v, h => h
  | .one o p e, v, h => by
    obtain ⟨g, u, hv, hk, hu⟩ := h
    exact ⟨g, u, hv, hk.grown hg hN, ErVn.grown hg hN hu⟩
  | .two a b, v, h => by
    obtain ⟨g, u1, u2, hv, hk, h1, h2⟩ := h
    exact ⟨g, u1, u2, hv, hk.grown hg hN, ErVn.grown hg hN h1, ErVn.grown hg hN h2⟩
theorem ErVn.weak {N M : Nat → Prop} {w : World} (hM : ∀ b, N b → b < w.heap.size → M b) : ∀ {e : Er} {v : Value}, ErVn N w e v → ErVn M w e v
  | .nil, v, h => h
  | .code c, v, h => h
  | .one o p e, v, h => by
    obtain ⟨g, u, hv, hk, hu⟩ := h
    exact ⟨g, u, hv, hk.weak hM, ErVn.weak hM hu⟩
  | .two a b, v, h => by
    obtain ⟨g, u1, u2, hv, hk, h1, h2⟩ := h
    exact ⟨g, u1, u2, hv, hk.weak hM, ErVn.weak hM h1, ErVn.weak hM h2⟩
theorem ErVn.ev {N : Nat → Prop} {w : World} {e : Er} {v : Value} (h : ErVn N w e v) : ErV w e v := ErVn.weak (fun _ _ _ => trivial) h
theorem ErV.below {w w' : World} (hb : Below w.heap.size w w') {e : Er} {v : Value} (h : ErV w e v) : ErV w' e v := ErVn.below hb h
/-- a blame: its block, and the trees under it -/
theorem ErV.bl {w : World} {e : Er} {v : Value} (h : ErV w e v) (hb : isBl e) : ∃ g us, v = .iface 122 (.pointer (some ⟨g, 0, none⟩)) ∧ BlmAt w g (bop e) (bpath e) (bboth e) us ∧ us.length = (subs e).length ∧
    ∀ (j : Nat) (u : Value) (x : Er), us[j]? = some u → (subs e)[j]? = some x → ErV w x u := by
  cases e with
  | nil => exact hb.elim
  | code c => exact hb.elim
  | one o p e =>
    obtain ⟨g, u, hv, hk, hu⟩ := h
    refine ⟨g, [u], hv, hk, rfl, fun j u' x h1 h2 => ?_⟩
    match j, h1, h2 with
    | 0, h1, h2 => simp [subs] at h1 h2; subst h1 h2; exact hu
    | j + 1, h1, h2 => simp at h1
  | two a b =>
    obtain ⟨g, u1, u2, hv, hk, ha, hb'⟩ := h
    refine ⟨g, [u1, u2], hv, hk, rfl, fun j u' x h1 h2 => ?_⟩
    match j, h1, h2 with
    | 0, h1, h2 => simp [subs] at h1 h2; subst h1 h2; exact ha
    | 1, h1, h2 => simp [subs] at h1 h2; subst h1 h2; exact hb'
    | j + 2, h1, h2 => simp at h1
theorem ErVn.one {N : Nat → Prop} {w : World} : ∀ {e : Er} {v : Value}, ErVn N w e v → v.oneCell' = true
  | .nil, v, h => by rw [show v = .nilIface from h]; rfl
  | .code c, v, h => by rw [show v = _ from h]; rfl
  | .one o p e, v, h => by obtain ⟨g, u, hv, _⟩ := h; rw [hv]; rfl
  | .two a b, v, h => by obtain ⟨g, u1, u2, hv, _⟩ := h; rw [hv]; rfl
theorem ErV.one {w : World} {e : Er} {v : Value} (h : ErV w e v) : v.oneCell' = true := ErVn.one h
theorem infoErr : (Tryz.prog.info? 42).map (fun i => (i.zero, i.size, i.bytes)) = some (some .nilIface, 1, 16) := by kernel_rfl

/-- errors that the call made a row of -/
def UnwRet (w : World) (us : List Value) (e : Ending) (w' : World) : Prop := ∃ A c, e = .returned (.slice A us.length c) ∧ VS w' w'.heap.size A us.length us ∧ Below w.heap.size w w' ∧ ∀ a, A = some a → w.heap.size ≤ a.block
set_option maxRecDepth 100000 in
set_option maxHeartbeats 4000000 in
theorem unwrap_any (g : Nat) (o p : List UInt8) (both : Bool) (us : List Value) (w : World) (h : BlmAt w g o p both us) (h1 : ∀ u ∈ us, u.oneCell' = true) (hn : us.length ≤ 1000) :
    Calls Tryz.prog 67 #[.pointer (some ⟨g, 0, none⟩)] w (UnwRet w us) := by
  obtain ⟨gu, -, -, -, h3, hl, hu, -, -⟩ := h
  have hvs := BlmAt.vs (g := g) hl hu
  obtain ⟨n, hnn⟩ : ∃ n, n = us.length := ⟨_, rfl⟩
  rw [← hnn] at h3 hn hvs
  have HN := Lib.hid hnn
  have HU := Lib.hid hu
  clear hu hnn
  have hq : (0 + n) * 16 ≤ 140737488355328 := by omega
  have hq2 : 0 + n ≤ maxLen := by unfold maxLen; omega
  go_enter Tryz.func67, Tryz.ntmps67
  go_wp2_with (at_builtin; refine wpList_appv Tryz.underlying123 infoErr rfl rfl _ _ rfl w.heap.size none 0 0 [] rfl (World.ownsRow_nil w _ _ 1) _ _ n n us rfl hvs h1 hq hq2 (Nat.le_refl _) ?_; intro A2 c2 w2 hown2 hg2 _)
  go_ret
  refine ⟨A2, c2, ?_, ?_, ?_, fun a ha => (World.ownsRow.lt hown2 a.block (by rw [ha]; rfl)).1⟩
  · rw [← HN.out]; simp
  · rw [← HN.out]
    have := ownsRow_vs hown2
    simpa using this
  · exact below_row (Below.refl _ _) (Nat.le_refl _) (World.ownsRow_nil w w.heap.size 42 1) (Nat.le_refl _) hg2
theorem unwrapNil_any (w : World) : Calls Tryz.prog 67 #[.pointer none] w fun e w' => e = .returned (.slice none 0 0) ∧ w = w' := by
  go_enter Tryz.func67, Tryz.ntmps67
  go_wp2_with fail
  go_ret
  exact ⟨rfl, rfl⟩
end Go.Proofs.YthhhiiagppckhaaGreatDoor
end

section
namespace Go.Proofs.YthhhiiagppckhaaGreatDoor
open Go.RowKit Go.Proofs.U Go.Proofs.Bp
set_option linter.unusedVariables false

theorem AsHit.up {w w1 : World} {t : Addr} {v : Value} {e : Ending} {w' : World} (h : AsHit w1 t v e w') (hb : Below w.heap.size w w1) : AsHit w t v e w' := by
  obtain ⟨he, wA, hA, hw⟩ := h
  exact ⟨he, wA, hb.trans (hA.mono hb.size), hw⟩
theorem As_b (e : Option Addr) (t : Addr) (old : Value) (w : World) (hg : ErrT w) (ht0 : w.cell? t = some old) (hf0 : w.frozen? t = false) :
    Calls Tryz.prog 66 #[.iface 122 (.pointer e), .iface 137 (.pointer (some t))] w (AsHit w t (.pointer e)) :=
  (as_via_B _ _ t w (fun b w' => b = true ∧ ∃ wA, Below w.heap.size w wA ∧ w' = wA.setCell t (.pointer e)) hg fun w1 a hb ha =>
    (as_hit_b e t a old w1 ha (cell_below ht0 hb) (free_below ht0 hf0 hb)).mono fun e' w' h => ⟨true, h.1, rfl, (h.up hb).2⟩).mono
    fun e' w' ⟨b, he, hb, hr⟩ => ⟨by rw [he, hb], hr⟩
theorem As_e (c : Int) (t : Addr) (old : Value) (w : World) (hg : ErrT w) (ht0 : w.cell? t = some old) (hf0 : w.frozen? t = false) :
    Calls Tryz.prog 66 #[.iface 23 (.int .i64 c), .iface 138 (.pointer (some t))] w (AsHit w t (.int .i64 c)) :=
  (as_via_E _ _ t w (fun b w' => b = true ∧ ∃ wA, Below w.heap.size w wA ∧ w' = wA.setCell t (.int .i64 c)) hg fun w1 a hb ha =>
    (as_hit_e c t a old w1 ha (cell_below ht0 hb) (free_below ht0 hf0 hb)).mono fun e' w' h => ⟨true, h.1, rfl, (h.up hb).2⟩).mono
    fun e' w' ⟨b, he, hb, hr⟩ => ⟨by rw [he, hb], hr⟩
theorem As_eb (c : Int) (t : Addr) (w : World) (hg : ErrT w) :
    Calls Tryz.prog 66 #[.iface 23 (.int .i64 c), .iface 137 (.pointer (some t))] w (AsMiss w) :=
  (as_via_B _ _ t w (fun b w' => b = false ∧ Below w.heap.size w w') hg fun w1 a hb ha =>
    (as_miss_e c t a w1).mono fun e' w' h => ⟨false, h.1, rfl, hb.trans (h.2.mono hb.size)⟩).mono
    fun e' w' ⟨b, he, hb, hr⟩ => ⟨by rw [he, hb], hr⟩
theorem infoEn : (Tryz.prog.info? 23).map (fun i => (i.zero, i.size, i.bytes)) = some (some (.int .i64 0), 1, 8) := by kernel_rfl
def cv (c : Int) : Value := .int .i64 c
/-- numbers that the call made a row of -/
def OwnC (w : World) (base : Nat) (A : Option Addr) (n c : Nat) (l : List Int) : Prop := w.ownsRow base 23 1 (.slice A n c) n (l.map cv)
theorem OwnC.nil (w : World) (base : Nat) : OwnC w base none 0 0 [] := World.ownsRow_nil w base _ 1
theorem OwnC.below {w w' : World} {base n c : Nat} {A : Option Addr} {l : List Int} (h : OwnC w base A n c l) (hb : Below w.heap.size w w') : OwnC w' base A n c l :=
  World.ownsRow.kept (row := none) h ⟨hb.os, hb.tape, hb.output, hb.size, fun k hk _ => hb.block k hk⟩ (by
    cases A with
    | none => exact .inl rfl
    | some a => exact .inr (by simp [Value.ownBlock]))
theorem OwnC.vs {w : World} {base n c : Nat} {A : Option Addr} {l : List Int} (h : OwnC w base A n c l) : VS w w.heap.size A n (l.map cv) := ownsRow_vs h
theorem OwnC.len {w : World} {base n c : Nat} {A : Option Addr} {l : List Int} (h : OwnC w base A n c l) : l.length = n := by have := h.1; simpa using this
theorem oneC (l : List Int) : ∀ u ∈ l.map cv, u.oneCell' = true := by
  intro u hu; obtain ⟨x, _, rfl⟩ := List.mem_map.1 hu; rfl
theorem OwnC.at_ {w : World} {base n c : Nat} {A : Option Addr} {l : List Int} (h : OwnC w base A n c l) {k : Nat} {x : Int} (hx : l[k]? = some x) : ∃ g, A = some ⟨g, 0, none⟩ ∧ w.cell? ⟨g, k, none⟩ = some (.int .i64 x) := by
  have hk := (List.getElem?_eq_some_iff.1 hx).1
  have hl := h.len
  obtain ⟨g, cap, hv, hb, hlt⟩ := World.ownsRow.form h (by omega)
  injection hv with hA
  subst hA
  have := VS.nth h.vs (k := k) (v := cv x) (by rw [List.getElem?_map, hx]; rfl)
  rw [Nat.zero_add] at this
  exact ⟨g, rfl, this⟩
theorem cell_set {w : World} {a : Addr} {u v : Value} (h : w.cell? a = some u) : (w.setCell a v).cell? a = some v := World.cell?_setCell_same' _ _ _ (by rw [h]; rfl)
theorem OwnC.mono {w : World} {base base' n c : Nat} {A : Option Addr} {l : List Int} (h : OwnC w base A n c l) (hb : base' ≤ base) : OwnC w base' A n c l := by
  refine ⟨h.1, ?_⟩
  rcases h.2 with h2 | ⟨g, cap, cur, hv, hg, r⟩
  · exact .inl h2
  · exact .inr ⟨g, cap, cur, hv, by omega, r⟩
theorem sub_ok {t x : Er} (h : t.ok) (hx : x ∈ subs t) : x.ok := by
  cases t with
  | nil => cases hx
  | code c => cases hx
  | one o p e => simp only [subs, List.mem_singleton] at hx; subst hx; exact h
  | two a b =>
    simp only [subs, List.mem_cons, List.not_mem_nil, or_false] at hx
    rcases hx with rfl | rfl
    · exact h.1
    · exact h.2
theorem codes_len : ∀ e : Er, e.codes.length ≤ siz e
  | .nil => by simp [Er.codes, siz]
  | .code c => by simp only [Er.codes, siz]; split <;> simp
  | .one _ _ e => by have := codes_len e; simp only [Er.codes, siz]; omega
  | .two a b => by have := codes_len a; have := codes_len b; simp only [Er.codes, siz, List.length_append]; omega
theorem codes_subs {e : Er} (h : isBl e) : e.codes = (subs e).flatMap Er.codes := by
  cases e with
  | nil => exact h.elim
  | code c => exact h.elim
  | one o p e => simp [subs, Er.codes]
  | two a b => simp [subs, Er.codes]
theorem subs_two (e : Er) : (subs e).length ≤ 2 := by cases e <;> simp [subs]
def CodesRet (w : World) (l : List Int) (e : Ending) (w' : World) : Prop := ∃ A n c, n = l.length ∧ e = .returned (.slice A n c) ∧ OwnC w' w.heap.size A n c l ∧ Below w.heap.size w w'

set_option maxRecDepth 100000 in
set_option maxHeartbeats 4000000 in
theorem codes_nil (w : World) : Calls Tryz.prog 44 #[.nilIface] w (CodesRet w []) := by
  go_enter Tryz.func44, Tryz.ntmps44
  go_wp2_with (go_at_call 66; refine (asNil_any _ _).mono ?_; rintro e w' ⟨rfl, rfl⟩)
  go_ret
  refine ⟨none, 0, 0, rfl, rfl, OwnC.nil _ _, ?_⟩
  exact ((Below.refl _ _).alloc (Nat.le_refl _) _).alloc (by simp) _
set_option maxRecDepth 100000 in
set_option maxHeartbeats 4000000 in
theorem codes_code (c : Int) (hc : c ≠ 0) (w : World) (hg : ErrT w) : Calls Tryz.prog 44 #[.iface 23 (.int .i64 c)] w (CodesRet w [c]) := by
  have hb0 := boxed w (.cells #[.pointer none] 122)
  have hc0 : (c == 0) = false := by simpa using hc
  have hc1 : (c != 0) = true := by simpa using hc
  have HC := Lib.hid hc
  clear hc
  go_enter Tryz.func44, Tryz.ntmps44
  go_wp2_with fail
  generalize w.alloc (.cells #[.pointer none] 122) = w0 at hb0 ⊢
  refine (As_eb c _ w0 (hg.below hb0)).mono ?_
  rintro e w1 ⟨rfl, hb1⟩
  have hbw1 := hb0.trans (hb1.mono hb0.size)
  go_wp2_with fail
  have hb2 := boxed w1 (.cells #[.int .i64 0] 23)
  have hc2 : (w1.alloc (.cells #[.int .i64 0] 23)).cell? ⟨w1.heap.size, 0, none⟩ = some (.int .i64 0) := by simp
  have hf2 : (w1.alloc (.cells #[.int .i64 0] 23)).frozen? ⟨w1.heap.size, 0, none⟩ = false := by simp
  have hs2 : (w1.alloc (.cells #[.int .i64 0] 23)).heap.size = w1.heap.size + 1 := by simp
  generalize w1.alloc (.cells #[.int .i64 0] 23) = w2 at hb2 hc2 hf2 hs2 ⊢
  have hbw2 := hbw1.trans (hb2.mono hbw1.size)
  refine (As_e c ⟨w1.heap.size, 0, none⟩ _ w2 (hg.below hbw2) hc2 hf2).mono ?_
  rintro e w3 ⟨rfl, wA, hbA, rfl⟩
  have hbw3 : Below w.heap.size w (wA.setCell ⟨w1.heap.size, 0, none⟩ (.int .i64 c)) := (hbw2.trans (hbA.mono hbw2.size)).setCell (p := ⟨w1.heap.size, 0, none⟩) hbw1.size _
  have hc3 : (wA.setCell ⟨w1.heap.size, 0, none⟩ (.int .i64 c)).cell? ⟨w1.heap.size, 0, none⟩ = some (.int .i64 c) := cell_set (cell_below hc2 hbA)
  generalize wA.setCell ⟨w1.heap.size, 0, none⟩ (.int .i64 c) = w3 at hbw3 hc3 ⊢
  clear hc2 hf2 hs2
  have hb4 := boxed w3 (.cells #[.int .i64 c] 23)
  have hvs : VS (w3.alloc (.cells #[.int .i64 c] 23)) (w3.heap.size + 1) (some ⟨w3.heap.size, 0, none⟩) 1 ([c].map cv) := VS.one w3 _ _
  have hbz : w.heap.size ≤ (w3.alloc (.cells #[.int .i64 c] 23)).heap.size := Nat.le_trans hbw3.size hb4.size
  have hn0 := World.ownsRow_nil (w3.alloc (.cells #[.int .i64 c] 23)) w.heap.size 23 1
  go_wp2_with (at_builtin; refine wpList_appv Tryz.underlying97 infoEn rfl rfl (.tmp 18) (.tmp 20) rfl w.heap.size none 0 0 [] rfl hn0 _ _ 1 1 _ rfl hvs (oneC _) (by decide) (by decide) hbz ?_; intro A2 c2 w5 hown5 hg5 _)
  go_ret
  exact ⟨A2, _, c2, rfl, rfl, by have := hown5; rw [List.nil_append] at this; exact this, below_row (hbw3.trans (hb4.mono hbw3.size)) hbz hn0 (Nat.le_refl _) hg5⟩

def CodesAll (n : Nat) : Prop := ∀ (t : Er) (v : Value) (w : World), siz t ≤ n → t.ok → ErV w t v → ErrT w → Calls Tryz.prog 44 #[v] w (CodesRet w t.codes)
set_option maxRecDepth 100000 in
set_option maxHeartbeats 8000000 in
theorem codes_bl (n : Nat) (hn : n ≤ 1000000) (ih : CodesAll n) (t : Er) (v : Value) (w : World) (hs : siz t ≤ n + 1) (hok : t.ok) (hbl : isBl t) (h : ErV w t v) (hg : ErrT w) : Calls Tryz.prog 44 #[v] w (CodesRet w t.codes) := by
  obtain ⟨g, us, rfl, hk, hul, hus⟩ := h.bl hbl
  have hone : ∀ u ∈ us, u.oneCell' = true := by
    intro u hu
    obtain ⟨j, hj, rfl⟩ := List.mem_iff_getElem.1 hu
    exact (hus j us[j] ((subs t)[j]'(by omega)) (by simp) (by simp)).one
  have h2 := subs_two t
  have HS := Lib.hid (And.intro hul (And.intro hus h2))
  have hu1000 : us.length ≤ 1000 := by omega
  clear hul hus h2
  have hb0 := boxed w (.cells #[.pointer none] 122)
  have hc0 : (w.alloc (.cells #[.pointer none] 122)).cell? ⟨w.heap.size, 0, none⟩ = some (.pointer none) := by simp
  have hf0 : (w.alloc (.cells #[.pointer none] 122)).frozen? ⟨w.heap.size, 0, none⟩ = false := by simp
  go_enter Tryz.func44, Tryz.ntmps44
  go_wp2_with fail
  generalize w.alloc (.cells #[.pointer none] 122) = w0 at hb0 hc0 hf0 ⊢
  refine (As_b _ ⟨w.heap.size, 0, none⟩ _ w0 (hg.below hb0) hc0 hf0).mono ?_
  rintro e w1 ⟨rfl, wA, hbA, rfl⟩
  have hb1 : Below w.heap.size w (wA.setCell ⟨w.heap.size, 0, none⟩ (.pointer (some ⟨g, 0, none⟩))) := (hb0.trans (hbA.mono hb0.size)).setCell (p := ⟨w.heap.size, 0, none⟩) (Nat.le_refl _) _
  have hc1 : (wA.setCell ⟨w.heap.size, 0, none⟩ (.pointer (some ⟨g, 0, none⟩))).cell? ⟨w.heap.size, 0, none⟩ = some (.pointer (some ⟨g, 0, none⟩)) := cell_set (cell_below hc0 hbA)
  generalize wA.setCell ⟨w.heap.size, 0, none⟩ (.pointer (some ⟨g, 0, none⟩)) = w1 at hb1 hc1 ⊢
  clear hc0 hf0
  go_wp2_with fail
  refine (unwrap_any g _ _ _ us w1 (hk.below hb1) hone hu1000).mono ?_
  rintro e w2 ⟨A2, c2, rfl, hvs2, hb2, -⟩
  have hbw2 := hb1.trans (hb2.mono hb1.size)
  obtain ⟨k, hkl⟩ : ∃ k, k = us.length := ⟨_, rfl⟩
  rw [← hkl] at hvs2
  rw [← hkl]
  have HK := Lib.hid hkl
  have hk2 : k ≤ 2 := by have := HS.out.2.2; have := HS.out.1; omega
  clear hkl hone hu1000 hc1
  go_wp2_with fail
  go_loopg [2, 26] k (fun r out i wr => ∃ (j m : Nat) (A : Option Addr) (c : Nat) (l : List Int), r + j = k ∧ i = .int .i64 (j : Int) ∧ out = .slice A m c ∧ l = ((subs t).take j).flatMap Er.codes ∧ m ≤ j * (n + 1) ∧ OwnC wr w2.heap.size A m c l ∧ Below w2.heap.size w2 wr)
  case atStart => exact ⟨0, 0, none, 0, [], rfl, rfl, rfl, rfl, by omega, OwnC.nil _ _, Below.refl _ _⟩
  case round =>
    obtain ⟨j, m, A, c, l, hgk, rfl, rfl, hl, hm, hown, hb3⟩ := hrel
    obtain ⟨wo, rfl⟩ : ∃ wo : World, wo = wr := ⟨_, rfl⟩
    have HJ := Lib.hid (And.intro hgk hl)
    have hm' : m ≤ 2 * (n + 1) := Nat.le_trans hm (Nat.mul_le_mul_right _ (by omega))
    have HM := Lib.hid hm
    clear hm
    by_cases hj : j < k
    · clear hgk hl
      have hju : j < us.length := by rw [← HK.out]; exact hj
      have hjs : j < (subs t).length := by rw [← HS.out.1]; exact hju
      obtain ⟨u, hu⟩ : ∃ u, us[j]? = some u := ⟨us[j], by simp⟩
      obtain ⟨x, hx⟩ : ∃ x, (subs t)[j]? = some x := ⟨(subs t)[j], by simp⟩
      have hxm := List.mem_of_getElem? hx
      have hxv := (HS.out.2.1 j u x hu hx)
      have hxo := sub_ok hok hxm
      have hxs : siz x ≤ n := by have := subs_lt hxm; omega
      obtain ⟨gA, oA, rfl, hgl, -⟩ := hvs2.2 (by omega)
      have c1 := VS.nth (hvs2.below hb3) hu
      have htk : ((subs t).take (j + 1)).flatMap Er.codes = l ++ x.codes := by
        rw [List.take_add_one, hx, List.flatMap_append, ← HJ.out.2]; simp
      have hxl := codes_len x
      have hbo := hbw2.trans (hb3.mono hbw2.size)
      have H := Lib.hid (And.intro hxv (And.intro htk hxl))
      clear hju hjs hu hx hxm hxv htk hxl
      go_wp2_with fail
      refine (ih x u wo hxs hxo (H.out.1.below hbo) (hg.below hbo)).mono ?_
      rintro e w3 ⟨A3, m3, c3, hm3, rfl, hown3, hb4⟩
      have hm3' : m3 ≤ n := by have := H.out.2.2; omega
      have HM3 := Lib.hid hm3
      clear hm3
      have hownB := hown.below hb4
      have hq : (m + m3) * 8 ≤ 140737488355328 := by omega
      have hq2 : m + m3 ≤ maxLen := by unfold maxLen; omega
      have hb34 := hb3.trans (hb4.mono hb3.size)
      go_wp2_with (at_builtin; refine wpList_appv Tryz.underlying97 infoEn rfl rfl (.tmp 30) (.tmp 32) rfl w2.heap.size _ _ _ _ rfl hownB _ _ m3 c3 _ rfl hown3.vs (oneC _) hq hq2 hb34.size ?_; intro A5 c5 w5 hown5 hg5 _)
      go_roundg (gk - 1)
      case measure => have := HJ.out.1; omega
      case rel =>
        refine ⟨j + 1, m + m3, A5, c5, l ++ x.codes, by have := HJ.out.1; omega, by go_num, rfl, H.out.2.1.symm, ?_, ?_, below_row hb34 hb34.size hownB (Nat.le_refl _) hg5⟩
        · have := HM.out; rw [Nat.add_mul]; omega
        · unfold OwnC; rw [List.map_append]; exact hown5
    · obtain rfl : j = k := by omega
      clear hgk
      have hall : l = t.codes := by
        rw [hl, List.take_of_length_le (by rw [← HS.out.1, ← HK.out]; exact Nat.le_refl _), codes_subs hbl]
      clear hl HJ
      subst hall
      go_wp2_with fail
      go_ret
      exact ⟨A, m, c, hown.len.symm, rfl, hown.mono hbw2.size, hbw2.trans (hb3.mono hbw2.size)⟩
theorem codes_all : ∀ n, n ≤ 1000000 → CodesAll n
  | 0, _ => fun t v w hs hok h hg => by cases t <;> simp [siz] at hs
  | n + 1, hn => fun t v w hs hok h hg => by
    cases t with
    | nil => exact hok.elim
    | code c =>
      obtain rfl : v = _ := h
      have := codes_code c hok w hg
      have e : (Er.code c).codes = [c] := by simp only [Er.codes]; rw [if_neg hok]
      rw [e]; exact this
    | one o p e => exact codes_bl n (by omega) (codes_all n (by omega)) _ v w hs hok trivial h hg
    | two a b => exact codes_bl n (by omega) (codes_all n (by omega)) _ v w hs hok trivial h hg
/-- an error or none -/
def EOk (t : Er) : Prop := t = .nil ∨ t.ok
theorem codes_any (t : Er) (v : Value) (w : World) (hs : siz t ≤ 1000000) (hok : EOk t) (h : ErV w t v) (hg : ErrT w) : Calls Tryz.prog 44 #[v] w (CodesRet w t.codes) := by
  rcases hok with rfl | hok
  · obtain rfl : v = _ := h
    exact codes_nil w
  · exact codes_all 1000000 (Nat.le_refl _) t v w hs hok h hg
def first0 (l : List Int) : Int := l.headD 0
def CodeRet (w : World) (c : Int) (e : Ending) (w' : World) : Prop := e = .returned (.int .i64 c) ∧ Below w.heap.size w w'
set_option maxRecDepth 100000 in
set_option maxHeartbeats 4000000 in
theorem code_any (t : Er) (v : Value) (w : World) (hs : siz t ≤ 1000000) (hok : EOk t) (h : ErV w t v) (hg : ErrT w) : Calls Tryz.prog 24 #[v] w (CodeRet w (first0 t.codes)) := by
  obtain ⟨l, hl⟩ : ∃ l, l = t.codes := ⟨_, rfl⟩
  rw [← hl]
  have hc := codes_any t v w hs hok h hg
  rw [← hl] at hc
  clear hl
  go_enter Tryz.func24, Tryz.ntmps24
  go_wp2_with fail
  refine hc.mono ?_
  rintro e w1 ⟨A, n, c, hn, rfl, hown, hb⟩
  cases l with
  | nil =>
    obtain rfl : n = 0 := hn
    go_wp2_with fail
    go_ret
    exact ⟨rfl, hb⟩
  | cons x r =>
    obtain ⟨g, rfl, hcell⟩ := hown.at_ (k := 0) (x := x) rfl
    have hn0 : 0 < n := by rw [hn]; simp
    clear hn
    go_wp2_with fail
    go_ret
    exact ⟨rfl, hb⟩
end Go.Proofs.YthhhiiagppckhaaGreatDoor
end

section
namespace Go.Proofs.YthhhiiagppckhaaGreatDoor
open Go.RowKit Go.Proofs.U Go.Proofs.Bp
set_option linter.unusedVariables false

theorem ok_first0 : ∀ {t : Er}, t.ok → first0 t.codes ≠ 0
  | .code c, h => by simp only [Er.codes]; rw [if_neg (show ¬ c = 0 from h)]; exact h
  | .one _ _ e, h => ok_first0 (t := e) h
  | .two a b, h => by
    have h1 := ok_first0 (t := a) h.1
    simp only [Er.codes]
    cases hl : a.codes with
    | nil => rw [hl] at h1; exact absurd rfl h1
    | cons x r => rw [hl] at h1; exact h1
def ErRetN (N : Nat → Prop) (w : World) (t : Er) (e : Ending) (w' : World) : Prop := ∃ v, e = .returned v ∧ ErVn N w' t v ∧ Below w.heap.size w w'
abbrev ErRet := ErRetN (fun _ => True)
theorem blm_new {N : Nat → Prop} (w : World) (o p : List UInt8) (both : Bool) (us : List Value) (vs : Array Value) (hvs : vs = us.toArray) (n : Nat) (hn : n = us.length) (so sp : ByteArray) (ho : so = strOf o) (hp : sp = strOf p) (hN : ∀ b, w.heap.size ≤ b → N b) :
    BlmAtN N ((w.alloc (.cells vs 42)).alloc (.cells #[.string so, .string sp, .bool both, .slice (some ⟨w.heap.size, 0, none⟩) n n] 125)) (w.heap.size + 1) o p both us := by
  subst hvs ho hp hn
  have hk : Blk ((w.alloc (.cells us.toArray 42)).alloc (.cells #[.string (strOf o), .string (strOf p), .bool both, .slice (some ⟨w.heap.size, 0, none⟩) us.length us.length] 125)) (w.heap.size + 1) 125 #[.string (strOf o), .string (strOf p), .bool both, .slice (some ⟨w.heap.size, 0, none⟩) us.length us.length] := by
    have := Blk.new (w.alloc (.cells us.toArray 42)) 125 #[.string (strOf o), .string (strOf p), .bool both, .slice (some ⟨w.heap.size, 0, none⟩) us.length us.length]
    rwa [World.size_alloc] at this
  have hu : Blk ((w.alloc (.cells us.toArray 42)).alloc (.cells #[.string (strOf o), .string (strOf p), .bool both, .slice (some ⟨w.heap.size, 0, none⟩) us.length us.length] 125)) w.heap.size 42 us.toArray := (Blk.new w 42 us.toArray).alloc _
  refine ⟨w.heap.size, hk.cell 0, hk.cell 1, hk.cell 2, hk.cell 3, hu.lt, fun j u hj => ?_, hN _ (by omega), hN _ (Nat.le_refl _)⟩
  rw [hu.cell, List.getElem?_toArray]; exact hj
theorem ErVn.iface {N : Nat → Prop} {w : World} {t : Er} {v : Value} (h : ErVn N w t v) (ht : t ≠ .nil) : ∃ T x, v = .iface T x := by
  cases t with
  | nil => exact absurd rfl ht
  | code c => exact ⟨_, _, h⟩
  | one o p e => obtain ⟨g, u, hv, _⟩ := h; exact ⟨_, _, hv⟩
  | two a b => obtain ⟨g, u1, u2, hv, _⟩ := h; exact ⟨_, _, hv⟩
theorem ok_nn {t : Er} (h : t.ok) : t ≠ .nil := fun e => by subst e; exact h
theorem two_new (w : World) (o1 o2 : Obj) : Below w.heap.size w ((w.alloc o1).alloc o2) := ((Below.refl _ _).alloc (Nat.le_refl _) _).alloc (by simp) _

set_option maxRecDepth 100000 in
set_option maxHeartbeats 4000000 in
theorem of_any {N : Nat → Prop} (c : Int) (hc : c ≠ 0) (o p : List UInt8) (w : World) (hN : ∀ b, w.heap.size ≤ b → N b) : Calls Tryz.prog 41 #[.int .i64 c, .string (strOf o), .string (strOf p)] w (ErRetN N w (.one o p (.code c))) := by
  have hc0 : (c == 0) = false := by simpa using hc
  obtain ⟨so, hso⟩ : ∃ so, so = strOf o := ⟨_, rfl⟩
  obtain ⟨sp, hsp⟩ : ∃ sp, sp = strOf p := ⟨_, rfl⟩
  rw [← hso, ← hsp]
  have HS := Lib.hid (And.intro hso hsp)
  clear hso hsp hc
  go_enter Tryz.func41, Tryz.ntmps41
  go_wp2_with fail
  go_ret
  exact ⟨_, rfl, ⟨w.heap.size + 1, _, rfl, blm_new w o p false [_] _ rfl 1 rfl _ _ HS.out.1 HS.out.2 hN, rfl⟩, two_new _ _ _⟩
set_option maxRecDepth 100000 in
set_option maxHeartbeats 4000000 in
theorem of_zero (so sp : ByteArray) (w : World) : Calls Tryz.prog 41 #[.int .i64 0, .string so, .string sp] w (ErRet w .nil) := by
  go_enter Tryz.func41, Tryz.ntmps41
  go_wp2_with fail
  go_ret
  exact ⟨_, rfl, rfl, Below.refl _ _⟩
end Go.Proofs.YthhhiiagppckhaaGreatDoor
end

section
namespace Go.Proofs.YthhhiiagppckhaaGreatDoor
open Go.RowKit Go.Proofs.U Go.Proofs.Bp
set_option linter.unusedVariables false

/-- what is wrapped: all of it, one by one -/
theorem unwrap_tree (t : Er) (g : Nat) (w : World) (hbl : isBl t) (h : ErV w t (.iface 122 (.pointer (some ⟨g, 0, none⟩)))) :
    Calls Tryz.prog 67 #[.pointer (some ⟨g, 0, none⟩)] w (fun e w' => ∃ A c us, e = .returned (.slice A (subs t).length c) ∧ us.length = (subs t).length ∧ VS w' w'.heap.size A (subs t).length us ∧ (∀ (j : Nat) (u : Value) (x : Er), us[j]? = some u → (subs t)[j]? = some x → ErV w' x u) ∧ Below w.heap.size w w') := by
  obtain ⟨g', us, hv, hk, hul, hus⟩ := h.bl hbl
  simp only [Value.iface.injEq, Value.pointer.injEq, Option.some.injEq, Addr.mk.injEq, and_true, true_and] at hv
  subst hv
  have hone : ∀ u ∈ us, u.oneCell' = true := by
    intro u hu
    obtain ⟨j, hj, rfl⟩ := List.mem_iff_getElem.1 hu
    exact (hus j us[j] ((subs t)[j]'(by omega)) (by simp) (by simp)).one
  have := subs_two t
  refine (unwrap_any g _ _ _ us w hk hone (by omega)).mono fun e w' ⟨A, c, he, hvs, hb, _⟩ => ?_
  rw [hul] at he hvs
  exact ⟨A, c, us, he, hul, hvs, fun j u x h1 h2 => (hus j u x h1 h2).below hb, hb⟩
end Go.Proofs.YthhhiiagppckhaaGreatDoor
end
