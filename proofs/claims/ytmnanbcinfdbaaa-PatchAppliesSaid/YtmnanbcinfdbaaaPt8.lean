/- What the reference's Feed keeps, round by round; conditions: none beyond their hypotheses. -/
import Derived.Test.YtmnanbcinfdbaaaPt7
namespace Go.Proofs.Ytmnanbcinfdbaaa
open Go.RowKit Go.Proofs.U
set_option linter.unusedVariables false

theorem zeroQ : (Try.prog.info? 49).map (fun i => (i.zero, i.size)) = some (some (.agg #[.slice none 0 0, .slice none 0 0, .int .i64 0, .int .i64 0]), 4) := by kernel_rfl
/-- the world inside the reference's Feed: the blocks of the argument p, of the result, of q; what is left; what came out -/
structure RdW (w0 w : World) (qb B1 : Nat) (Ab : Option Addr) (nb cb : Nat) (Ah : Option Addr) (hl ch : Nat) (base : List UInt8) (o0 o f : Nat) (A3 : Option Addr) (c3 : Nat) (rest : List UInt8) (Ao : Option Addr) (co : Nat) (out : List UInt8) : Prop where
  pk : Blk w w0.heap.size 49 (ptC Ab nb cb Ah hl ch o0 0)
  rk : Blk w (w0.heap.size + 1) 49 #[.slice none 0 0, .slice none 0 0, .int .i64 0, .int .i64 0]
  qk : Blk w qb 49 (ptC Ab nb cb A3 rest.length c3 o f)
  rs : BS w B1 A3 rest.length rest
  ot : Own w B1 5 Ao out.length co out
  bs : BS w w0.heap.size Ab nb base
  be : Below w0.heap.size w0 w
  lq : qb < B1
  lr : w0.heap.size + 1 < qb
  lb : B1 ≤ w.heap.size
section
variable {w0 w w' : World} {qb B1 nb cb hl ch c3 co o0 o f : Nat} {Ab Ah A3 Ao : Option Addr} {base rest out : List UInt8}
theorem RdW.below (h : RdW w0 w qb B1 Ab nb cb Ah hl ch base o0 o f A3 c3 rest Ao co out) (hb : Below w.heap.size w w') : RdW w0 w' qb B1 Ab nb cb Ah hl ch base o0 o f A3 c3 rest Ao co out :=
  ⟨h.pk.stay hb, h.rk.stay hb, h.qk.stay hb, h.rs.below (hb.mono h.lb), h.ot.below hb, h.bs.below (hb.mono h.be.size), h.be.trans (hb.mono h.be.size), h.lq, h.lr, Nat.le_trans h.lb hb.size⟩
theorem RdW.setQ (h : RdW w0 w qb B1 Ab nb cb Ah hl ch base o0 o f A3 c3 rest Ao co out) {i : Nat} {v : Value} {A4 : Option Addr} {c4 o' f' : Nat} {rest' : List UInt8} (hv : (ptC Ab nb cb A3 rest.length c3 o f).setIfInBounds i v = ptC Ab nb cb A4 rest'.length c4 o' f') (hr : BS w B1 A4 rest'.length rest') :
    RdW w0 (w.setCell ⟨qb, i, none⟩ v) qb B1 Ab nb cb Ah hl ch base o0 o' f' A4 c4 rest' Ao co out := by
  have hg : w.grownBy (w.setCell ⟨qb, i, none⟩ v) (some qb) := only_setCell (World.grownBy.refl _ _) (.inl rfl) _
  have hlq := h.lq
  have hlr := h.lr
  have hbs := h.be.size
  have hql := h.qk.lt
  refine ⟨h.pk.grown hg (by simp; omega), h.rk.grown hg (by simp; omega), by have := h.qk.set_ i v; rw [hv] at this; exact this, bs_off hr h.qk (ptC_no8 _ _ _ _ _ _ _ _) hg h.lb, own_kept h.ot hg hlq, h.bs.grown hg hbs (fun k hk => by injection hk; omega), h.be.setCell (p := ⟨qb, i, none⟩) (by show w0.heap.size ≤ qb; omega) v, hlq, hlr, by simpa using h.lb⟩
theorem RdW.app (h : RdW w0 w qb B1 Ab nb cb Ah hl ch base o0 o f A3 c3 rest Ao co out) {A2 : Option Addr} {c2 : Nat} {x : List UInt8} (hown : Own w' B1 5 A2 (out ++ x).length c2 (out ++ x)) (hg : w.grownBy w' (Value.slice Ao out.length co).ownBlock) : RdW w0 w' qb B1 Ab nb cb Ah hl ch base o0 o f A3 c3 rest A2 c2 (out ++ x) := by
  have hlq := h.lq
  have hlr := h.lr
  have hbs := h.be.size
  have hql := h.qk.lt
  have hne : ∀ k, (Value.slice Ao out.length co).ownBlock = some k → B1 ≤ k := fun k hk => (World.ownsRow.lt h.ot k hk).1
  refine ⟨h.pk.grown hg (fun e => by have := hne _ e.symm; omega), h.rk.grown hg (fun e => by have := hne _ e.symm; omega), h.qk.grown hg (fun e => by have := hne _ e.symm; omega), h.rs.grown hg h.lb (fun k hk => by have := hne _ hk; omega), hown, h.bs.grown hg hbs (fun k hk => by have := hne _ hk; omega), below_of_grown h.be hbs h.ot (by omega) hg, hlq, hlr, Nat.le_trans h.lb hg.size⟩
end
/-- what the reference's Feed gives -/
def RFeedRet (w : World) (Ab : Option Addr) (nb cb : Nat) (R : List UInt8 × Nat × List UInt8 × Nat) (e : Ending) (w' : World) : Prop :=
  ∃ A c A3 c3, e = .returned (.tuple #[.agg #[.slice Ab nb cb, .slice A3 R.2.2.1.length c3, .int .i64 ((R.2.1 : Nat) : Int), .int .i64 ((R.2.2.2 : Nat) : Int)], .slice A R.1.length c, .int .i64 ((R.2.2.2 : Nat) : Int)]) ∧
    BS w' w'.heap.size A R.1.length R.1 ∧ BS w' w'.heap.size A3 R.2.2.1.length R.2.2.1 ∧ R.2.2.1.length ≤ c3 ∧ Below w.heap.size w w'
end Go.Proofs.Ytmnanbcinfdbaaa
