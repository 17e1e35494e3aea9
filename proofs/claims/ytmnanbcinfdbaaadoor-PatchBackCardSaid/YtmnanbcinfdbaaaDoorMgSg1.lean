/- The walk of cut's iterator; conditions: none beyond its hypotheses. A base's blocks and their groups, plain; and the table in memory; conditions: none beyond their hypotheses. -/
import Derived.Test.YtmnanbcinfdbaaaDoorMgRin
import Derived.Test.YtmnanbcinfdbaaaDoorMgSl
import Derived.IntWalk
import Derived.RangeFuncBound
import Derived.RangeFuncCalls
import Derived.Shelf.Abstract
import Derived.Shelf.RegionOpen
import Derived.WalkKit
import Derived.OwnWalkIn
import Derived.TacticsInMore
import Derived.LoopNIn
import Derived.LoopIn
import Derived.Test.YtmnanbcinfdbaaaDoorMgU
import Derived.Test.YtmnanbcinfdbaaaDoorMgSh7
import Derived.Maps.GroupsBeside
import Derived.Maps.Keyed
import Derived.RangeFuncOwn
set_option linter.unusedSimpArgs false
set_option linter.unusedVariables false
section
namespace Go.Proofs.YtmnanbcinfdbaaaDoor
open Go.RowKit Go.Proofs.U
set_option linter.unusedVariables false
attribute [local go_sem] Oper.semAt_some
def KpC (Bn B2 : Nat) (A B : World) : Prop := ∀ q, q = Bn ∨ q = B2 → B.heap[q]? = A.heap[q]?
def encC (bb bo s : Nat) (k : Nat) : Array Value := #[.int .i64 (k : Int), .slice (some ⟨bb, bo + k * s, none⟩) s s]
set_option maxRecDepth 100000 in
set_option maxHeartbeats 4000000 in
theorem cut_seq (Bn B2 : Nat) (A : Option Addr) (bb bo nb cb s : Nat) (w : World) (h1 : Blk w Bn 22 #[.slice A nb cb]) (h2 : Blk w B2 3 #[.int .i64 (s : Int)]) (hne : Bn ≠ B2) (hA : 0 < nb → A = some ⟨bb, bo, none⟩) (hc : nb ≤ cb) (hn : nb ≤ 4096) (hs : 4 ≤ s) (hs2 : s ≤ 64) :
    SeqCap Tryd.prog 104 #[.pointer (some ⟨Bn, 0, none⟩), .pointer (some ⟨B2, 0, none⟩)] Bn (nb / s) (encC bb bo s) (KpC Bn B2) w := by
  intro l m J W hJ hY h0 hK
  have hN : nb / s * s ≤ nb := Nat.div_mul_le_self nb s
  have hN2 : nb < nb / s * s + s := by have := Nat.lt_div_mul_add (a := nb) (b := s) (by omega); omega
  have hNb : nb / s ≤ nb := Nat.div_le_self nb s
  generalize nb / s = N at hY hN hN2 hNb ⊢
  have k1 : Blk W Bn 22 #[.slice A nb cb] := (hK _ (.inl rfl)).trans h1
  have k2 : Blk W B2 3 #[.int .i64 (s : Int)] := (hK _ (.inr rfl)).trans h2
  have HJ := Lib.hid (And.intro hJ (And.intro hY h0))
  clear hJ hY h0 hK h1 h2
  refine callsIn_of_wp Tryd.func104 rfl trivial ?_ rfl
  simp only [Tryd.ntmps104, List.size_toArray, List.length_cons, List.length_nil, Nat.reduceAdd, Nat.reduceSub, Array.replicate_succ, Array.replicate_zero, List.push_toArray, List.append_toArray, List.nil_append, List.cons_append]
  gi_wp2
  gi_loopw [4] (fun i wr => ∃ (k r : Nat) (Ak : Option Addr) (ck : Nat), k ≤ N ∧ i = .int .i64 (k : Int) ∧ r + k * s = nb ∧ J k wr ∧ Blk wr Bn 22 #[.slice Ak r ck] ∧ r ≤ ck ∧ (0 < r → Ak = some ⟨bb, bo + k * s, none⟩) ∧ Blk wr B2 3 #[.int .i64 (s : Int)]) (fun i _ => N - (intOf i).toNat)
  case atStart => exact ⟨0, nb, A, cb, Nat.zero_le _, rfl, by simp, HJ.out.2.2, k1, hc, by simpa using hA, k2⟩
  case round =>
    clear k1 k2
    obtain ⟨k, r, Ak, ck, hk, rfl, hr, hj, k1, hck, hAk, k2⟩ := hrel
    have c1 := k1.cell 0
    have c2 := k2.cell 0
    have f1 := k1.frozen 0
    simp at c1 c2
    by_cases hlt : k < N
    · have hks : (k + 1) * s ≤ N * s := Nat.mul_le_mul_right s (by omega)
      rw [Nat.succ_mul] at hks
      have hrs : s ≤ r := by omega
      obtain rfl := hAk (by omega)
      obtain ⟨fn, tmps, assign, body, hy, hR⟩ := HJ.out.2.1 k wr hlt hj
      unfold encC at hy
      have i1 : (s : Int) ≤ (r : Int) := by omega
      have i2 : (s : Int) ≤ (ck : Int) := by omega
      have HH := Lib.hid (And.intro k1 (And.intro k2 (And.intro hj hr)))
      clear k1 k2 hj hr hAk
      gi_wp2
      refine ⟨fun h => absurd h (by simp [Fence.wide]), (hR _).mono ?_⟩
      rintro e W3 ⟨rfl, hJ3, hK3⟩
      have k1 := (hK3 _ (.inl rfl)).trans HH.out.1
      have k2 := (hK3 _ (.inr rfl)).trans HH.out.2.1
      have c3 := Blk.cell k1 0
      have c4 := Blk.cell k2 0
      have f3 := Blk.frozen k1 0
      simp at c3 c4
      have H3 := Lib.hid (And.intro k1 (And.intro k2 hJ3))
      clear k1 k2 hJ3 hK3 hR hy c1 c2 f1
      have hr := HH.out.2.2.2
      have HR := Lib.hid hr
      clear hr
      by_cases hcs : ck = s
      · have hrr : r = s := by omega
        gi_wp2
        go_roundw
        case rel =>
          refine ⟨k + 1, 0, some ⟨bb, bo + k * s, none⟩, 0, by omega, by go_num, ?_, ?_, ?_, Nat.le_refl _, fun h => absurd h (by omega), ?_⟩
          · have := HR.out; rw [Nat.succ_mul]; omega
          · exact HJ.out.1 _ _ _ H3.out.2.2 (only_setCell (World.grownBy.refl _ _) (.inl rfl) _)
          · have := Blk.set_ H3.out.1 0 (.slice (some ⟨bb, bo + k * s, none⟩) 0 0); simpa [hrr, hcs] using this
          · exact Blk.grown H3.out.2.1 (only_setCell (World.grownBy.refl _ _) (.inl rfl) _) (by simp; exact fun e => hne e.symm)
        case measure => simp [intOf]; omega
      · gi_wp2
        go_roundw
        case rel =>
          refine ⟨k + 1, r - s, some ⟨bb, bo + k * s + s, none⟩, ck - s, by omega, by go_num, ?_, ?_, ?_, by omega, fun h => by rw [Nat.succ_mul, ← Nat.add_assoc], ?_⟩
          · have := HR.out; rw [Nat.succ_mul]; omega
          · exact HJ.out.1 _ _ _ H3.out.2.2 (only_setCell (World.grownBy.refl _ _) (.inl rfl) _)
          · have := Blk.set_ H3.out.1 0 (.slice (some ⟨bb, bo + k * s + s, none⟩) (r - s) (ck - s)); simpa using this
          · exact Blk.grown H3.out.2.1 (only_setCell (World.grownBy.refl _ _) (.inl rfl) _) (by simp; exact fun e => hne e.symm)
        case measure => simp [intOf]; omega
    · obtain rfl : k = N := by omega
      have i1 : ¬ (s : Int) ≤ (r : Int) := by omega
      have HH := Lib.hid hj
      clear hj
      gi_wp2
      go_end0
      exact ⟨⟨_, rfl⟩, HH.out⟩
end Go.Proofs.YtmnanbcinfdbaaaDoor
end

section
namespace Go.Proofs.YtmnanbcinfdbaaaDoor
open Go.RowKit Go.Proofs.U Go.ChangeShapes
set_option linter.unusedVariables false
def blkB (base : List UInt8) (s i : Nat) : List UInt8 := (base.drop (i * s)).take s
def wk (base : List UInt8) (s i : Nat) : Int := rsum (blkB base s i)
def bval (x : List UInt8) : List Value := .int .u32 (rsum x) :: (Sh.dig x).map bv
def bvals (base : List UInt8) (s : Nat) : Nat → List Value
  | 0 => []
  | k + 1 => bvals base s k ++ bval (blkB base s k)
theorem bval_len (x : List UInt8) : (bval x).length = 33 := by simp [bval, Sh.dig_len]
theorem bvals_len (base : List UInt8) (s : Nat) : ∀ k, (bvals base s k).length = k * 33
  | 0 => rfl
  | k + 1 => by rw [bvals, List.length_append, bvals_len base s k, bval_len]; omega
theorem bval_one (x : List UInt8) : ∀ u ∈ bval x, u.oneCell' = true := by
  intro u hu
  simp only [bval, List.mem_cons, List.mem_map] at hu
  rcases hu with rfl | ⟨c, _, rfl⟩ <;> rfl
theorem bvals_one (base : List UInt8) (s : Nat) : ∀ k, ∀ u ∈ bvals base s k, u.oneCell' = true
  | 0, _, h => by cases h
  | k + 1, u, h => by
    rcases List.mem_append.1 h with h | h
    · exact bvals_one base s k u h
    · exact bval_one _ u h
/-- the places of a weak sum, in order -/
def grp (base : List UInt8) (s : Nat) (x : Int) : Nat → List Int
  | 0 => []
  | k + 1 => if wk base s k = x then grp base s x k ++ [(k : Int)] else grp base s x k
theorem grp_len (base : List UInt8) (s : Nat) (x : Int) : ∀ k, (grp base s x k).length ≤ k
  | 0 => by simp [grp]
  | k + 1 => by
    have := grp_len base s x k
    unfold grp
    split
    · simp; omega
    · omega
def Dm (base : List UInt8) (s : Nat) : Nat → DataW Unit
  | 0 => .map []
  | k + 1 => (Dm base s k).put (.int .u32 (wk base s k)) (.slice (lits .i64 (grp base s (wk base s k) k ++ [(k : Int)])) [])
theorem Dm_map (base : List UInt8) (s : Nat) : ∀ k, Maps.IsMap (Dm base s k)
  | 0 => Maps.isMap_empty
  | k + 1 => (Dm_map base s k).put _ _
theorem Dm_at (base : List UInt8) (s : Nat) (x : Int) : ∀ k, (Dm base s k).atKey (.int .u32 x) .nil = if grp base s x k = [] then .nil else .slice (lits .i64 (grp base s x k)) []
  | 0 => by simp [Dm, grp]; rfl
  | k + 1 => by
    rw [Dm]
    by_cases h : wk base s k = x
    · subst h
      rw [Maps.atKey_put_same (Dm_map base s k) (show WideAt.IsKeyLit (.int .u32 (wk base s k)) from trivial)]
      rw [if_neg (by unfold grp; rw [if_pos rfl]; simp)]
      conv => rhs; unfold grp
      rw [if_pos rfl]
    · rw [Maps.atKey_put_other (by intro e; injection e with _ e; exact h e.symm), Dm_at base s x k]
      conv => rhs; unfold grp
      rw [if_neg h]
/-- what the look-up's slice owns -/
theorem grp_of {w : World} {b0 : Nat} {e : TypeId} {v : Value} {zs : List Int} {base : List UInt8} {s k : Nat} {x : Int} (ho : w.ownsInts b0 e .i64 v zs) (h : (Dm base s k).atKey (.int .u32 x) .nil = rowDatum .i64 v zs) : zs = grp base s x k := by
  rw [Dm_at] at h
  rcases ho.datum (H := Unit) with ⟨h1, h2⟩ | h1
  · rw [h1] at h
    split at h
    · rename_i h0; rw [h2, h0]
    · cases h
  · rw [h1] at h
    split at h
    · cases h
    · simp only [DataW.slice.injEq, and_true] at h
      have : Function.Injective fun n : Int => (DataW.lit (.int .i64 n) : DataW Unit) := fun a b e => by injection e with e; injection e
      exact ((List.map_inj_right (fun a b e => this e)).1 h).symm
/-- the table in memory: r blocks in the row, k in the map -/
structure Tab (w : World) (g mb B0 : Nat) (Ab : Option Addr) (nb cb : Nat) (base : List UInt8) (s r k : Nat) : Prop where
  row : ∃ Al cl, Blk w g 96 #[.slice Ab nb cb, .int .i64 (s : Int), .slice Al r cl, .map (some mb)] ∧ w.ownsRow B0 101 33 (.slice Al r cl) r (bvals base s r)
  grp : w.ownsGroups (H := Unit) Tryd.prog 34 B0 3 .i64 mb k (Dm base s k)
/-- a block that bears no row of the table's -/
def Apart (w : World) (B0 : Nat) (row : Option Nat) (E : List TypeId) : Prop := ∀ j, row = some j → j < B0 ∨ ∀ cur e fr, w.heap[j]? = some (.cells cur e fr) → e ∉ E
theorem row_apart {w : World} {B0 : Nat} {e : TypeId} {size n : Nat} {v : Value} {vs : List Value} {row : Option Nat} (h : w.ownsRow B0 e size v n vs) (ha : Apart w B0 row [e]) : v.ownBlock = none ∨ v.ownBlock ≠ row := by
  rcases hw : v.ownBlock with _ | j
  · exact .inl rfl
  · refine .inr (fun e1 => ?_)
    have hlt := World.ownsRow.lt h j hw
    rcases ha j e1.symm with h1 | h1
    · omega
    · rcases h.2 with ⟨rfl, _⟩ | ⟨g, cap, cur, rfl, _, hh, _⟩
      · simp [Value.ownBlock] at hw
      · simp [Value.ownBlock] at hw
        subst hw
        exact h1 _ _ _ hh (by simp)
theorem grp_apart {w w' : World} {mb B0 k : Nat} {D : DataW Unit} {row : Option Nat} (h : w.ownsGroups (H := Unit) Tryd.prog 34 B0 3 .i64 mb k D) (hg : w.grownBy w' row) (h2 : some mb ≠ row) (ha : Apart w B0 row [3]) : w'.ownsGroups (H := Unit) Tryd.prog 34 B0 3 .i64 mb k D := by
  refine h.kept hg h2 fun es clock hb x hx => ?_
  obtain ⟨es', clock', hb', F, _⟩ := h
  obtain ⟨rfl, rfl⟩ : es' = es ∧ clock' = clock := by rw [hb'] at hb; simpa using hb
  obtain ⟨y, hy⟩ := F.reads x hx
  obtain ⟨z, hz, _⟩ := Go.WideElems.rd_val hy
  obtain ⟨zs, ho, _⟩ := rowElem_inv hz
  exact row_apart ho.1 ha
theorem Apart.sub {w : World} {B0 : Nat} {row : Option Nat} {E E' : List TypeId} (h : Apart w B0 row E) (hs : ∀ e ∈ E', e ∈ E) : Apart w B0 row E' := fun j hj => (h j hj).imp id fun h2 cur e fr hh he => h2 cur e fr hh (hs e he)
theorem Tab.only {w w' : World} {g mb B0 nb cb s r k : Nat} {Ab : Option Addr} {base : List UInt8} {row : Option Nat} (h : Tab w g mb B0 Ab nb cb base s r k) (hg : w.grownBy w' row) (h1 : some g ≠ row) (h2 : some mb ≠ row) (ha : Apart w B0 row [101, 3]) : Tab w' g mb B0 Ab nb cb base s r k := by
  obtain ⟨Al, cl, hx, hb⟩ := h.row
  exact ⟨⟨Al, cl, hx.grown hg h1, hb.kept hg (row_apart hb (ha.sub (by simp)))⟩, grp_apart h.grp hg h2 (ha.sub (by simp))⟩
theorem Tab.below {w w' : World} {g mb B0 nb cb s r k : Nat} {Ab : Option Addr} {base : List UInt8} (h : Tab w g mb B0 Ab nb cb base s r k) (hb : Below w.heap.size w w') : Tab w' g mb B0 Ab nb cb base s r k := by
  have hg : w.grownBy w' none := ⟨hb.os, hb.tape, hb.output, hb.size, fun j hj _ => hb.block j hj⟩
  exact h.only hg (by simp) (by simp) (fun j e => by cases e)
theorem Apart.obj {w : World} {B0 j : Nat} {o : Obj} {E : List TypeId} (h : w.heap[j]? = some o) (ho : o.isCells = false) : Apart w B0 (some j) E := fun i e => by
  injection e with e
  subst e
  exact .inr fun cur e fr hh _ => by rw [h] at hh; injection hh with hh; subst hh; cases ho
theorem Apart.blk {w : World} {B0 j : Nat} {T : TypeId} {cs : Array Value} {E : List TypeId} (h : Blk w j T cs) (hT : T ∉ E) : Apart w B0 (some j) E := fun i e => by
  injection e with e
  subst e
  exact .inr fun cur e fr hh he => by rw [show w.heap[j]? = _ from h] at hh; injection hh with hh; injection hh with _ hh; subst hh; exact hT he
end Go.Proofs.YtmnanbcinfdbaaaDoor
end
