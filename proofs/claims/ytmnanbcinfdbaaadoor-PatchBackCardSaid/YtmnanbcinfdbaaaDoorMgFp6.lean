/- What a patch's Feed keeps, round by round; conditions: none beyond their hypotheses. -/
import Derived.Test.YtmnanbcinfdbaaaDoorMgPt1
import Derived.Test.YtmnanbcinfdbaaaDoorMgFp5
import Derived.Test.YtmnanbcinfdbaaaDoorMgU
import Derived.Test.YtmnanbcinfdbaaaDoorMgSl
set_option linter.unusedSimpArgs false
set_option linter.unusedVariables false
section
namespace Go.Proofs.YtmnanbcinfdbaaaDoor
open Go.RowKit Go.Proofs.U
set_option linter.unusedVariables false

/-- a block without bytes is written: bytes read as before -/
theorem bs_off {w w' : World} {B n g : Nat} {T : TypeId} {A : Option Addr} {bs : List UInt8} {cs : Array Value} (h : BS w B A n bs) (hk : Blk w g T cs) (hcs : ∀ (i : Nat) (x : Int), cs[i]? ≠ some (.int .u8 x)) (hg : w.grownBy w' (some g)) (hB : B ≤ w.heap.size) : BS w' B A n bs := by
  refine ⟨h.1, fun hn => ?_⟩
  obtain ⟨b, off, e, hlt, hc⟩ := h.2 hn
  have hl := h.1
  have hne : b ≠ g := by
    rintro rfl
    have h0 := hc 0 (by omega)
    rw [hk.cell] at h0
    exact hcs _ _ h0
  exact ⟨b, off, e, hlt, fun j hj => (World.cell?_of_block (hg.block b (Nat.lt_of_lt_of_le hlt hB) (fun e2 => hne (by injection e2)))).trans (hc j hj)⟩
theorem ptC_no8 (Ab : Option Addr) (nb cb : Nat) (Ah : Option Addr) (nh ch : Nat) (o f : Int) (i : Nat) (x : Int) : (ptC Ab nb cb Ah nh ch o f)[i]? ≠ some (.int .u8 x) := by
  unfold ptC
  match i with
  | 0 => simp
  | 1 => simp
  | 2 => simp
  | 3 => simp
  | i + 4 => simp
theorem own_kept {w w' : World} {base n c g : Nat} {e : TypeId} {A : Option Addr} {bs : List UInt8} (h : Own w base e A n c bs) (hg : w.grownBy w' (some g)) (hb : g < base) : Own w' base e A n c bs := by
  refine World.ownsRow.kept h hg ?_
  rcases hw : (Value.slice A n c).ownBlock with _ | k
  · exact .inl rfl
  · refine .inr ?_
    have := (World.ownsRow.lt h k hw).1
    simp; omega

/-- the world inside Feed: the patch's block g, the block rb of what is left, the bytes that came out -/
structure FdW (w0 w : World) (g rb : Nat) (Ab : Option Addr) (nb cb : Nat) (Ah : Option Addr) (hl ch : Nat) (base : List UInt8) (o f : Nat) (A3 : Option Addr) (c3 : Nat) (rest : List UInt8) (Ao : Option Addr) (co : Nat) (out : List UInt8) : Prop where
  pk : Blk w g 122 (ptC Ab nb cb Ah hl ch o f)
  rk : Blk w rb 22 #[.slice A3 rest.length c3]
  rs : BS w rb A3 rest.length rest
  ot : Own w (rb + 1) 5 Ao out.length co out
  bs : BS w g Ab nb base
  gr : w0.grownBy w (some g)
  lt : g < w0.heap.size
  l0 : w0.heap.size ≤ rb
section
variable {w0 w w' : World} {g rb nb cb hl ch c3 co o f : Nat} {Ab Ah A3 Ao : Option Addr} {base rest out : List UInt8}
theorem FdW.rlt (h : FdW w0 w g rb Ab nb cb Ah hl ch base o f A3 c3 rest Ao co out) : rb < w.heap.size := h.rk.lt
theorem FdW.below (h : FdW w0 w g rb Ab nb cb Ah hl ch base o f A3 c3 rest Ao co out) (hb : Below w.heap.size w w') : FdW w0 w' g rb Ab nb cb Ah hl ch base o f A3 c3 rest Ao co out :=
  ⟨h.pk.stay hb, h.rk.stay hb, h.rs.below (hb.mono (Nat.le_of_lt h.rlt)), h.ot.below hb, h.bs.below (hb.mono (Nat.le_of_lt h.pk.lt)), only_below h.gr hb, h.lt, h.l0⟩
theorem FdW.setE (h : FdW w0 w g rb Ab nb cb Ah hl ch base o f A3 c3 rest Ao co out) (f' : Nat) : FdW w0 (w.setCell ⟨g, 3, none⟩ (.int .i64 (f' : Int))) g rb Ab nb cb Ah hl ch base o f' A3 c3 rest Ao co out := by
  have hg : w.grownBy (w.setCell ⟨g, 3, none⟩ (.int .i64 (f' : Int))) (some g) := only_setCell (World.grownBy.refl _ _) (.inl rfl) _
  have hlt := h.lt
  have hl0 := h.l0
  refine ⟨by have := h.pk.set_ 3 (.int .i64 (f' : Int)); simpa [ptC] using this, h.rk.grown hg (by simp; omega), bs_off h.rs h.pk (ptC_no8 _ _ _ _ _ _ _ _) hg (Nat.le_of_lt h.rlt), own_kept h.ot hg (by omega), h.bs.grown hg (Nat.le_of_lt h.pk.lt) (fun k hk => by injection hk; omega), only_trans h.gr hg, hlt, hl0⟩
theorem FdW.setO (h : FdW w0 w g rb Ab nb cb Ah hl ch base o f A3 c3 rest Ao co out) (o' : Nat) : FdW w0 (w.setCell ⟨g, 2, none⟩ (.int .i64 (o' : Int))) g rb Ab nb cb Ah hl ch base o' f A3 c3 rest Ao co out := by
  have hg : w.grownBy (w.setCell ⟨g, 2, none⟩ (.int .i64 (o' : Int))) (some g) := only_setCell (World.grownBy.refl _ _) (.inl rfl) _
  have hlt := h.lt
  have hl0 := h.l0
  refine ⟨by have := h.pk.set_ 2 (.int .i64 (o' : Int)); simpa [ptC] using this, h.rk.grown hg (by simp; omega), bs_off h.rs h.pk (ptC_no8 _ _ _ _ _ _ _ _) hg (Nat.le_of_lt h.rlt), own_kept h.ot hg (by omega), h.bs.grown hg (Nat.le_of_lt h.pk.lt) (fun k hk => by injection hk; omega), only_trans h.gr hg, hlt, hl0⟩
theorem FdW.setR (h : FdW w0 w g rb Ab nb cb Ah hl ch base o f A3 c3 rest Ao co out) (A4 : Option Addr) (c4 : Nat) (rest' : List UInt8) (hr : BS w rb A4 rest'.length rest') : FdW w0 (w.setCell ⟨rb, 0, none⟩ (.slice A4 rest'.length c4)) g rb Ab nb cb Ah hl ch base o f A4 c4 rest' Ao co out := by
  have hg : w.grownBy (w.setCell ⟨rb, 0, none⟩ (.slice A4 rest'.length c4)) (some rb) := only_setCell (World.grownBy.refl _ _) (.inl rfl) _
  have hlt := h.lt
  have hl0 := h.l0
  have hrl := h.rlt
  refine ⟨h.pk.grown hg (by simp; omega), by have := h.rk.set_ 0 (.slice A4 rest'.length c4); simpa using this, hr.grown hg (Nat.le_of_lt hrl) (fun k hk => by injection hk; omega), own_kept h.ot hg (by omega), h.bs.grown hg (Nat.le_of_lt h.pk.lt) (fun k hk => by injection hk; omega), only_setCell h.gr (.inr hl0) _, hlt, hl0⟩
theorem FdW.app (h : FdW w0 w g rb Ab nb cb Ah hl ch base o f A3 c3 rest Ao co out) {A2 : Option Addr} {c2 : Nat} {x : List UInt8} (hown : Own w' (rb + 1) 5 A2 (out ++ x).length c2 (out ++ x)) (hg : w.grownBy w' (Value.slice Ao out.length co).ownBlock) : FdW w0 w' g rb Ab nb cb Ah hl ch base o f A3 c3 rest A2 c2 (out ++ x) := by
  have hlt := h.lt
  have hl0 := h.l0
  have hrl := h.rlt
  have hne : ∀ k, (Value.slice Ao out.length co).ownBlock = some k → rb + 1 ≤ k := fun k hk => (World.ownsRow.lt h.ot k hk).1
  refine ⟨h.pk.grown hg (fun e => by have := hne _ e.symm; omega), h.rk.grown hg (fun e => by have := hne _ e.symm; omega), h.rs.grown hg (Nat.le_of_lt hrl) (fun k hk => by have := hne _ hk; omega), hown, h.bs.grown hg (Nat.le_of_lt h.pk.lt) (fun k hk => by have := hne _ hk; omega), only_own h.gr (Own.mono h.ot (by omega)) hg, hlt, hl0⟩
end
end Go.Proofs.YtmnanbcinfdbaaaDoor
end
