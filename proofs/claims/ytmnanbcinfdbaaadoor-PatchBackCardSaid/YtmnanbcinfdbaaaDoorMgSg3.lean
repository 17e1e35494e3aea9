/- The round of sign.Of's loop; conditions: none beyond its hypotheses. -/
import Derived.Test.YtmnanbcinfdbaaaDoorMgSg1
import Derived.Test.YtmnanbcinfdbaaaDoorMgSh7
import Derived.Test.YtmnanbcinfdbaaaDoorMgRin
import Derived.Test.YtmnanbcinfdbaaaDoorMgSl
import Derived.Great.FillDense
import Derived.Great.BuildSlice
import Derived.Maps.GroupsBeside
import Derived.Maps.Keyed
import Derived.Outline
set_option linter.unusedSimpArgs false
set_option linter.unusedVariables false
section
namespace Go.Proofs.U
open Go.RowKit
set_option linter.unusedVariables false
/-- the body of the first range over a function -/
def roundOf : Code → Option Code
  | .rangeFunc _ _ _ b => some b
  | .seq a b => (roundOf a).or (roundOf b)
  | .block _ b => roundOf b
  | .loop b => roundOf b
  | .scope b => roundOf b
  | .cond _ a b => (roundOf a).or (roundOf b)
  | _ => none
section
variable {P : Program} {ops : Array Oper} {Q : Exit → Act → World → Prop}
/-- one operation that yields a value: the next frame by what its slots hold -/
theorem list_val {rest : List Oper} {o : Oper} {f : Act} {W W' : World} (hgd : o.guard = none) (d : Nat) (hd : o.dst = some d) (v : Value) (hrun : ∀ ρ : Operand → Value, (∀ x, ρ x = f.eval x) → (execOp ρ o).run P W = .ok (.value v) W') (hlt : d < f.tmps.size)
    (h : ∀ f' : Act, f'.tmps.size = f.tmps.size → f'.eval (.tmp d) = v → (∀ j, j ≠ d → f'.eval (.tmp j) = f.eval (.tmp j)) → wpList P ops Q rest f' W') : wpList P ops Q (o :: rest) f W := by
  refine wpList_plain hgd fun K hK => ?_
  unfold Oper.wp
  rw [hrun _ fun _ => rfl]
  simp only [Oper.upon]
  rw [hd]
  exact hK _ _ (h _ (by simp [Act.put]) (tmps_set_eq v hlt) (fun j hj => tmps_set_ne v (fun e => hj e.symm)))
theorem list_call {rest : List Oper} {o : Oper} {f : Act} {W : World} (hgd : o.guard = none) (d : Nat) (hd : o.dst = some d) (g : FuncId) (args : Array Value) (hrun : ∀ ρ : Operand → Value, (∀ x, ρ x = f.eval x) → (execOp ρ o).run P W = .ok (.enter g args) W) (hlt : d < f.tmps.size)
    {R : Ending → World → Prop} (hc : Calls P g args W R)
    (h : ∀ e W', R e W' → ∃ v, e = .returned v ∧ ∀ f' : Act, f'.tmps.size = f.tmps.size → f'.eval (.tmp d) = v → (∀ j, j ≠ d → f'.eval (.tmp j) = f.eval (.tmp j)) → wpList P ops Q rest f' W') : wpList P ops Q (o :: rest) f W := by
  refine wpList_plain hgd fun K hK => ?_
  unfold Oper.wp
  rw [hrun _ fun _ => rfl, Oper.upon_enter, hd]
  refine hc.mono fun e W' hr => ?_
  obtain ⟨v, rfl, h'⟩ := h e W' hr
  exact hK _ _ (h' _ (by simp [Act.put]) (tmps_set_eq v hlt) (fun j hj => tmps_set_ne v (fun e => hj e.symm)))
end
end Go.Proofs.U
namespace Go.Proofs.YtmnanbcinfdbaaaDoor
open Go.RowKit Go.Proofs.U
set_option linter.unusedVariables false
attribute [local go_sem] Oper.semAt_some
theorem zeroBlk : (Tryd.prog.info? 101).map (fun i => (i.zero, i.size, i.bytes)) = some (some (.agg (Value.int .u32 0 :: (List.replicate 32 (0 : UInt8)).map bv).toArray), 33, 36) := by kernel_rfl
theorem placesBlk : (match Tryd.prog.underlying 101 with
  | some (.struct fs) => fs.toList.mapM fun f => (Tryd.prog.info? f.type).map fun i => (f.offset, i.size)
  | _ => none) = some [(0, 1), (1, 32)] := by kernel_rfl
theorem fill_blk (x : Int) (D : List Value) (hD : D.length = 32) (cs : Array Value) (hc : cs.size = 33) :
    Instr.fill (fun i => [((0 : Nat), (1 : Nat)), (1, 32)].toArray[i]?) cs [(0, .int .u32 x), (1, .agg D.toArray)] = some (.int .u32 x :: D).toArray := by
  unfold Instr.fill
  have h1 : (Value.int .u32 x).cells = #[.int .u32 x] := rfl
  have h2 : (Value.agg D.toArray).cells = D.toArray := rfl
  simp only [h1, List.getElem?_toArray, List.getElem?_cons_zero, List.size_toArray, List.length_cons, List.length_nil, hc]
  rw [if_neg (by simp)]
  unfold Instr.fill
  simp only [h2, List.getElem?_toArray, List.getElem?_cons_succ, List.getElem?_cons_zero, List.size_toArray, hD]
  rw [if_neg (by simp [hc])]
  unfold Instr.fill
  congr 1
  rw [← Array.foldl_toList, Array.toList_zipIdx]
  obtain ⟨g1, g2⟩ := Great.foldl_set 1 D.toArray.toList 0 (#[Value.int .u32 x].zipIdx.foldl (fun cs (x : Value × Nat) => cs.setIfInBounds (0 + x.2) x.1) cs)
  have hz : (#[Value.int .u32 x].zipIdx.foldl (fun cs (x : Value × Nat) => cs.setIfInBounds (0 + x.2) x.1) cs) = cs.setIfInBounds 0 (.int .u32 x) := by simp
  refine Array.ext_getElem? fun k => ?_
  refine (g2 k).trans ?_
  rw [hz]
  simp only [Array.size_setIfInBounds, hc, hD, Nat.add_zero]
  rcases k with _ | k
  · rw [if_neg (by omega)]; simp [hc]
  · by_cases hk : k < 32
    · rw [if_pos (by omega)]; simp
    · rw [if_neg (by omega), Array.getElem?_eq_none (by simp only [Array.size_setIfInBounds, hc]; omega), Array.getElem?_eq_none (by simp only [List.size_toArray, List.length_cons, hD]; omega)]
theorem run_build_blk (x : Int) (D : List Value) (hD : D.length = 32) (w : World) :
    (Instr.build 101 #[(0, .int .u32 x), (1, .agg D.toArray)]).run Tryd.prog w = .ok (.agg (.int .u32 x :: D).toArray) w := by
  refine run_build w _ _ _ ?_
  obtain ⟨it, hit, hz0, -, -⟩ := info_parts zeroBlk
  have hp := placesBlk
  unfold Program.built
  rw [hit]
  cases hu : Tryd.prog.underlying 101 with
  | none => rw [hu] at hp; cases hp
  | some d =>
    rw [hu] at hp
    cases d <;> try (cases hp; done)
    case struct fs =>
      simp only at hp
      simp only [hz0, hp]
      exact fill_blk x D hD _ (by simp [Value.cells])
theorem fill_one (n : Nat) (D : List Value) (hD : D.length = n) (cs : Array Value) (hc : cs.size = n) :
    Instr.fill (fun i => some (i * n, n)) cs [(0, .agg D.toArray)] = some D.toArray := by
  unfold Instr.fill
  have h2 : (Value.agg D.toArray).cells = D.toArray := rfl
  simp only [h2, List.size_toArray, hD, Nat.zero_mul]
  rw [if_neg (by simp [hc])]
  unfold Instr.fill
  congr 1
  rw [← Array.foldl_toList, Array.toList_zipIdx]
  obtain ⟨g1, g2⟩ := Great.foldl_set 0 D.toArray.toList 0 cs
  refine Array.ext_getElem? fun k => ?_
  refine (g2 k).trans ?_
  simp only [hc, hD, Nat.add_zero]
  by_cases hk : k < n
  · rw [if_pos (by omega)]; simp
  · rw [if_neg (by omega), Array.getElem?_eq_none (by rw [hc]; omega), Array.getElem?_eq_none (by simp only [List.size_toArray, hD]; omega)]
/-- what a round leaves as it is -/
structure Rest (N nbk : Nat) (X : List UInt8) (W A : World) : Prop where
  size : W.heap.size ≤ A.heap.size
  below : Below N W A
  from_ : KeepsFrom (N + 5) W A
  kp : KpC (N + 3) (N + 4) W A
  t : Blk A (N + 2) 46 #[.pointer (some ⟨N + 1, 0, none⟩)]
  blk : Blk A nbk 101 (bval X).toArray
theorem Rest.step {N nbk : Nat} {X : List UInt8} {W A B : World} {row : Option Nat} (h : Rest N nbk X W A) (hW : N + 5 ≤ W.heap.size) (hg : A.grownBy B row)
    (hr : ∀ j, row = some j → j = N ∨ j = N + 1 ∨ (N + 5 ≤ j ∧ j ≠ nbk ∧ ∃ cur e fr, A.heap[j]? = some (.cells cur e fr))) (hnb : nbk ≠ N ∧ nbk ≠ N + 1) : Rest N nbk X W B := by
  have hne : ∀ q, q = N + 2 ∨ q = N + 3 ∨ q = N + 4 → some q ≠ row := fun q hq e => by rcases hr q e.symm with h | h | ⟨h, _⟩ <;> omega
  have hs := h.size
  refine ⟨Nat.le_trans h.size hg.size, h.below.grown hg (by omega) (fun j e => by rcases hr j e with h | h | ⟨h, _⟩ <;> omega), ?_, ?_, h.t.grown hg (hne _ (by omega)), h.blk.grown hg (fun e => by rcases hr nbk e.symm with h | h | ⟨_, h, _⟩ <;> omega)⟩
  · refine h.from_.trans ⟨hg.size, fun i o hi ho hc => (hg.block i (Array.getElem?_eq_some_iff.1 ho).1 fun e => ?_).trans ho⟩
    rcases hr i e.symm with h | h | ⟨_, _, cur, e, fr, h⟩
    · omega
    · omega
    · rw [h] at ho; injection ho with ho; subst ho; cases hc
  · intro q hq
    exact (hg.block q (by omega) (hne q (by omega))).trans (h.kp q hq)
/-- the row grows: what holds while region 10 runs -/
structure R10 (N nbk N0 s k nb cb : Nat) (Ab Al : Option Addr) (cl : Nat) (base : List UInt8) (W : World) (v : Value) (b4 b6 b7 b10 : Bool) (A : World) : Prop where
  rest : Rest N nbk (blkB base s k) W A
  grp : A.ownsGroups (H := Unit) Tryd.prog 34 (N + 5) 3 .i64 N k (Dm base s k)
  n0 : b6 = false → A.heap.size = N0
  n1 : N0 ≤ A.heap.size
  row : b7 = false → A.ownsRow (N + 5) 101 33 (.slice Al k cl) k (bvals base s k)
  bld : b6 = true → b7 = false → Blk A N0 101 (bval (blkB base s k)).toArray
  app : b7 = true → A.ownsRow (N + 5) 101 33 v (k + 1) (bvals base s (k + 1))
  tab : b10 = false → Blk A (N + 1) 96 #[.slice Ab nb cb, .int .i64 (s : Int), .slice Al k cl, .map (some N)]
  new : b10 = true → Blk A (N + 1) 96 #[.slice Ab nb cb, .int .i64 (s : Int), v, .map (some N)]
  d10 : b10 = true → b7 = true
  d7 : b7 = true → b6 = true ∧ b4 = true
def V10 (N N0 k cl : Nat) (Al : Option Addr) (X : List UInt8) (v : Value) : Nat → Value
  | 0 | 1 | 2 | 8 => .pointer (some ⟨N + 1, 0, none⟩)
  | 3 | 9 => .pointer (some ⟨N + 1, 2, none⟩)
  | 4 => .slice Al k cl
  | 5 => .agg (bval X).toArray
  | 6 => .slice (some ⟨N0, 0, none⟩) 1 1
  | 7 => v
  | _ => undef
theorem V10_ne {N N0 k cl : Nat} {Al : Option Addr} {X : List UInt8} (v v' : Value) {j : Nat} (h : j ≠ 7) : V10 N N0 k cl Al X v' j = V10 N N0 k cl Al X v j := by
  rcases j with _ | _ | _ | _ | _ | _ | _ | _ | _ | _ | j <;> first | rfl | exact absurd rfl h
theorem own_cells {w : World} {base size n j : Nat} {e : TypeId} {v : Value} {vs : List Value} (h : w.ownsRow base e size v n vs) (hj : v.ownBlock = some j) : ∃ cur, w.heap[j]? = some (.cells cur e (0, 0)) := by
  rcases h.2 with ⟨rfl, _⟩ | ⟨g, cap, cur, rfl, _, hh, _⟩
  · simp [Value.ownBlock] at hj
  · simp [Value.ownBlock] at hj
    subst hj
    exact ⟨_, hh⟩
theorem own_slice {w : World} {base size n : Nat} {e : TypeId} {v : Value} {vs : List Value} (h : w.ownsRow base e size v n vs) : ∃ A c, v = .slice A n c := by
  rcases h.2 with ⟨rfl, h0⟩ | ⟨g, cap, cur, rfl, _⟩
  · exact ⟨none, 0, by rw [h0]⟩
  · exact ⟨_, _, rfl⟩
theorem grown_set (W : World) (a : Addr) (v : Value) : W.grownBy (W.setCell a v) (some a.block) :=
  ⟨rfl, rfl, rfl, by simp [World.setCell], fun k _ hk => Below.heap_setCell W a v k (fun e => hk (by rw [e]))⟩
theorem zeroInt : (Tryd.prog.info? 3).map (fun i => (i.zero, i.size, i.bytes)) = some (some (.int .i64 0), 1, 8) := by kernel_rfl
theorem fill_int (k : Nat) : Instr.fill (fun i => some (i * 1, 1)) ((Array.range (1 * 1)).map ((Value.int .i64 0).cells[· % (Value.int .i64 0).cells.size]!)) #[(0, Value.int .i64 (k : Int))].toList = some #[Value.int .i64 (k : Int)] := by
  have h : Array.range 1 = #[0] := rfl
  simp [Instr.fill, Value.cells, h]
/-- the group is ready to be stored -/
def Sto (N s k : Nat) (base : List UInt8) (A : World) (v : Value) : Prop :=
  ∃ w2, (Instr.mapUpdate 93 (.map (some N)) (.int .u32 (wk base s k)) v).run Tryd.prog A = .ok () w2 ∧ w2.ownsGroups (H := Unit) Tryd.prog 34 (N + 5) 3 .i64 N (k + 1) (Dm base s (k + 1)) ∧ A.grownBy w2 (some N)
/-- what was found -/
def Lkd (N s k : Nat) (base : List UInt8) (A : World) (u : Value) : Prop :=
  ∃ zs, A.ownsInts (N + 5) 3 .i64 u zs ∧ zs = grp base s (wk base s k) k ∧ zs.length ≤ k ∧ A.groupBack (H := Unit) Tryd.prog 93 34 (N + 5) 3 .i64 N k (Dm base s k) (.int .u32 (wk base s k)) (.int .u32 (wk base s k)) u
theorem Lkd.grown {N s k : Nat} {base : List UInt8} {A B : World} {u : Value} (h : Lkd N s k base A u) (hg : A.grownBy B none) : Lkd N s k base B u := by
  obtain ⟨zs, h1, h2, h3, h4⟩ := h
  have hb : ∀ {C : World} {r : Option Nat}, B.grownBy C r → A.grownBy C r := fun {C r} k => ⟨k.os.trans hg.os, k.tape.trans hg.tape, k.output.trans hg.output, Nat.le_trans hg.size k.size, fun i hi hne => (k.block i (Nat.lt_of_lt_of_le hi hg.size) hne).trans (hg.block i hi (by simp))⟩
  refine ⟨zs, h1.kept hg (row_apart h1.1 (fun j e => by cases e)), h2, h3, fun w1 v' zs' hg' ho hl hloc => h4 w1 v' zs' (hb hg') ho hl ?_⟩
  rcases hloc with h | ⟨g, h, h'⟩
  · exact .inl h
  · exact .inr ⟨g, h, Nat.le_trans hg.size h'⟩
theorem zeroInts : (Tryd.prog.info? 102).map (fun i => (i.zero, i.size)) = some (some (.slice none 0 0), 1) := by kernel_rfl
structure R11 (N nbk N1 s k nb cb : Nat) (Ab : Option Addr) (bv0 : Value) (base : List UInt8) (W : World) (σ : Value × Value) (b12 b14 b15 b16 : Bool) (A : World) : Prop where
  rest : Rest N nbk (blkB base s k) W A
  row : A.ownsRow (N + 5) 101 33 bv0 (k + 1) (bvals base s (k + 1))
  tab : Blk A (N + 1) 96 #[.slice Ab nb cb, .int .i64 (s : Int), bv0, .map (some N)]
  n0 : b14 = false → A.heap.size = N1
  n1 : N1 ≤ A.heap.size
  bld : b14 = true → b15 = false → Blk A N1 3 #[.int .i64 (k : Int)]
  grp : b12 = false → A.ownsGroups (H := Unit) Tryd.prog 34 (N + 5) 3 .i64 N k (Dm base s k)
  look : b12 = true → b15 = false → Lkd N s k base A σ.1
  sto : b15 = true → b16 = false → Sto N s k base A σ.2
  fin : b16 = true → A.ownsGroups (H := Unit) Tryd.prog 34 (N + 5) 3 .i64 N (k + 1) (Dm base s (k + 1))
  d16 : b16 = true → b15 = true
  d15 : b15 = true → b12 = true ∧ b14 = true
def V11 (N nbk N1 s k : Nat) (base : List UInt8) (σ : Value × Value) : Nat → Value
  | 0 | 1 | 6 | 7 => .pointer (some ⟨N + 1, 0, none⟩)
  | 2 | 8 => .pointer (some ⟨N + 1, 3, none⟩)
  | 3 | 9 => .map (some N)
  | 4 | 10 => .pointer (some ⟨nbk, 0, none⟩)
  | 5 | 11 => .int .u32 (wk base s k)
  | 12 => σ.1
  | 13 => .int .i64 (k : Int)
  | 14 => .slice (some ⟨N1, 0, none⟩) 1 1
  | 15 => σ.2
  | _ => undef
theorem V11_ne12 {N nbk N1 s k : Nat} {base : List UInt8} (u u' v : Value) {j : Nat} (h : j ≠ 12) : V11 N nbk N1 s k base (u', v) j = V11 N nbk N1 s k base (u, v) j := by
  rcases j with _ | _ | _ | _ | _ | _ | _ | _ | _ | _ | _ | _ | _ | _ | _ | _ | j <;> first | rfl | exact absurd rfl h
theorem V11_ne15 {N nbk N1 s k : Nat} {base : List UInt8} (u v v' : Value) {j : Nat} (h : j ≠ 15) : V11 N nbk N1 s k base (u, v') j = V11 N nbk N1 s k base (u, v) j := by
  rcases j with _ | _ | _ | _ | _ | _ | _ | _ | _ | _ | _ | _ | _ | _ | _ | _ | j <;> first | rfl | exact absurd rfl h
set_option maxRecDepth 100000 in
set_option maxHeartbeats 4000000 in
theorem body_any (c : Code) (hc : (Tryd.f30.body.bind roundOf) = some c) (N s k nb cb : Nat) (Ab : Option Addr) (bb bo : Nat) (base : List UInt8) (hs2 : s ≤ 64) (hk : k < 4096) (l m : Nat) (W : World) (f : Act)
    (hf : f.tmps.size = 63) (h6 : f.eval (.tmp 6) = .pointer (some ⟨N + 1 + 1, 0, none⟩)) (h7 : f.eval (.tmp 7) = .int .i64 (k : Int)) (h8 : f.eval (.tmp 8) = .slice (some ⟨bb, bo + k * s, none⟩) s s)
    (hT : Tabs W) (hbs : BS W N (some ⟨bb, bo + k * s, none⟩) s (blkB base s k)) (hTab : Tab W (N + 1) N (N + 5) Ab nb cb base s k k) (htb : Blk W (N + 2) 46 #[.pointer (some ⟨N + 1, 0, none⟩)]) (hW : N + 5 ≤ W.heap.size) :
    c.wpIn (Fence.wide.inRound l) m Tryd.prog (fun e _ W' => e = .normal ∧ KeepsFrom (N + 5) W W' ∧ KpC (N + 3) (N + 4) W W' ∧ Tab W' (N + 1) N (N + 5) Ab nb cb base s (k + 1) (k + 1) ∧ Blk W' (N + 2) 46 #[.pointer (some ⟨N + 1, 0, none⟩)] ∧ Below N W W') f W := by
  simp [roundOf, Tryd.f30] at hc
  subst hc
  refine wpIn_block (wpIn_seq ?_)
  refine round_list (by rfl) (by rintro ⟨_, _, h⟩; exact absurd h.1 (by simp)) ?_
  refine list_val (W' := W) rfl 31 rfl (.slice (some ⟨bb, bo + k * s, none⟩) s s) (by intro ρ h; simp only [execOp, h, h8]; rfl) (by omega) ?_
  intro f1 hf1 e31 ef1
  refine list_call rfl 32 rfl 71 #[.slice (some ⟨bb, bo + k * s, none⟩) s s] (by intro ρ h; have e := (h _).trans e31; have e2 : ρ (.func 71) = .func (.func 71) #[] #[] := h _; clear h; simp [execOp, go_sem, e, e2]) (by omega) (rsum_any _ s s (blkB base s k) W N hbs (by omega) (by unfold maxLen; omega)) ?_
  rintro e w1 ⟨rfl, hb1⟩
  refine ⟨_, rfl, ?_⟩
  intro f2 hf2 e32 ef2
  refine list_val (W' := w1) rfl 33 rfl (.slice (some ⟨bb, bo + k * s, none⟩) s s) (by intro ρ h; have e := (h _).trans ((ef2 8 (by decide)).trans ((ef1 8 (by decide)).trans h8)); simp only [execOp, e]; rfl) (by omega) ?_
  intro f3 hf3 e33 ef3
  refine list_call rfl 34 rfl 17 #[.slice (some ⟨bb, bo + k * s, none⟩) s s] (by intro ρ h; have e := (h _).trans e33; have e2 : ρ (.func 17) = .func (.func 17) #[] #[] := h _; clear h; simp [execOp, go_sem, e, e2]) (by omega) (sumP_any _ s s (blkB base s k) w1 ((hbs.below (hb1.mono (by omega))).more (by have := hb1.size; omega)) (Nat.le_refl _) (by omega) (hT.stay hb1)) ?_
  rintro e w2 ⟨rfl, hb2⟩
  refine ⟨_, rfl, ?_⟩
  intro f4 hf4 e34 ef4
  have hdl : ((Sh.dig (blkB base s k)).map bv).length = 32 := by simp [Sh.dig_len]
  refine list_val (W' := w2) rfl 35 rfl (.agg (bval (blkB base s k)).toArray) (by intro ρ h; have e1 := (h _).trans e34; have e2 := (h _).trans ((ef4 32 (by decide)).trans ((ef3 32 (by decide)).trans e32)); clear h; simp only [execOp, List.map_toArray, List.map_cons, List.map_nil, e1, e2, Sem.run_bind, run_build_blk _ _ hdl, Result.andThen_ok]; rfl) (by omega) ?_
  intro f5 hf5 e35 ef5
  obtain ⟨it, hit, hz0, hz1, -⟩ := info_parts zeroBlk
  obtain ⟨z, hz⟩ : ∃ z, z = (Value.int .u32 0 :: (List.replicate 32 (0 : UInt8)).map bv).toArray := ⟨_, rfl⟩
  have hzs : z.size = 33 := by rw [hz]; rfl
  rw [← hz] at hz0
  clear hz
  refine list_val (W' := w2.alloc (.cells z 101)) rfl 9 rfl (.pointer (some ⟨w2.heap.size, 0, none⟩)) (by intro ρ h; simp [execOp, go_sem, Instr.alloc, zeroValue, typeInfo, hit, hz0]) (by omega) ?_
  intro f6 hf6 e9 ef6
  have hns : nb * 0 = 0 := rfl
  have s1 := hb1.size
  have s2 := hb2.size
  refine wpList_store_blk rfl 101 (.tmp 9) (.tmp 35) rfl w2.heap.size (bval (blkB base s k)).toArray e9 ((ef6 35 (by decide)).trans e35) 101 z (Blk.new w2 _ _) (by rw [hit]; simp [hz1, bval_len]) (by rw [hzs]; simp [bval_len]) (all_oneCell_toArray (bval_one _)) ?_
  intro w3 hb3 hg3
  have hal : Below W.heap.size W w3 := ((hb1.trans (hb2.mono s1)).alloc (by omega) _).grown hg3 (by simp; omega) (fun j e => by injection e; omega)
  have hnbk : w2.heap.size < w3.heap.size := hb3.lt
  have c6 : f6.eval (.tmp 6) = .pointer (some ⟨N + 1 + 1, 0, none⟩) := (ef6 6 (by decide)).trans ((ef5 6 (by decide)).trans ((ef4 6 (by decide)).trans ((ef3 6 (by decide)).trans ((ef2 6 (by decide)).trans ((ef1 6 (by decide)).trans h6)))))
  have c7 : f6.eval (.tmp 7) = .int .i64 (k : Int) := (ef6 7 (by decide)).trans ((ef5 7 (by decide)).trans ((ef4 7 (by decide)).trans ((ef3 7 (by decide)).trans ((ef2 7 (by decide)).trans ((ef1 7 (by decide)).trans h7)))))
  have hf6' : f6.tmps.size = 63 := by rw [hf6, hf5, hf4, hf3, hf2, hf1, hf]
  obtain ⟨nbk, hn⟩ : ∃ n, n = w2.heap.size := ⟨_, rfl⟩
  rw [← hn] at hb3 hg3 e9 hnbk
  have hnb : W.heap.size ≤ nbk := by omega
  have hR : Rest N nbk (blkB base s k) W w3 := ⟨hal.size, hal.mono (by omega), ⟨hal.size, fun i o _ ho _ => (hal.block i (Array.getElem?_eq_some_iff.1 ho).1).trans ho⟩, fun q hq => hal.block q (by omega), htb.stay hal, hb3⟩
  clear ef1 ef2 ef3 ef4 ef5 ef6 e31 e32 e33 e34 e35 hf1 hf2 hf3 hf4 hf5 hf6 hf h6 h7 h8 hdl hit hz0 hz1 hzs hn s1 s2 hns hT hbs htb
  have hgn : W.grownBy w3 none := ⟨hal.os, hal.tape, hal.output, hal.size, fun j hj _ => hal.block j hj⟩
  obtain ⟨⟨Al, cl, hrow0, hown0⟩, hgrp0⟩ := hTab
  have hlt := World.ownsRow.lt hown0
  have hrow := hrow0.stay hal
  have hown := hown0.kept hgn (row_apart hown0 (fun j e => by cases e))
  have hgrp := grp_apart hgrp0 hgn (by simp) (fun j e => by cases e)
  clear hgn hal hb1 hb2 hb3 hg3 hown0 hrow0 hgrp0
  show Code.wpIn _ _ _ _ _ f6 w3
  refine wpIn_seq (round_any (by kernel_rfl) (by kernel_rfl) (by rintro ⟨_, _, h⟩; exact absurd h.1 (by simp)) ?_)
  refine any_vals (σ := Value) (V10 N w3.heap.size k cl Al (blkB base s k)) (fun v L A => R10 N nbk w3.heap.size s k nb cb Ab Al cl base W v (L.getD 4 false) (L.getD 6 false) (L.getD 7 false) (L.getD 10 false) A) f6 36 63 (by kernel_rfl) (by kernel_rfl) (by decide) (by kernel_rfl) ?_ hf6' undef ?_ ?_
  · rintro i o ho v L a A H hl hdep K hK
    have hst := H.st
    have hlsz : L.size = 11 := H.lsz
    have hsame : i ≠ 4 → i ≠ 6 → i ≠ 7 → i ≠ 10 → ∀ A', A' = A → R10 N nbk w3.heap.size s k nb cb Ab Al cl base W v ((L.setIfInBounds i true).getD 4 false) ((L.setIfInBounds i true).getD 6 false) ((L.setIfInBounds i true).getD 7 false) ((L.setIfInBounds i true).getD 10 false) A' := by
      rintro h4 h6 h7 h10 A' rfl
      rw [getD_set_ne false h4, getD_set_ne false h6, getD_set_ne false h7, getD_set_ne false h10]
      exact hst
    rcases i with _ | _ | _ | _ | _ | _ | _ | _ | _ | _ | _ | i
    · simp only [List.getElem?_toArray, List.getElem?_cons_zero, List.getElem?_cons_succ, Option.some.injEq] at ho
      subst ho
      have e := (H.ev0 6 (by decide)).trans c6
      have c := Blk.cell hst.rest.t 0
      have c' : A.cell? ⟨N + 1 + 1, 0, none⟩ = some (.pointer (some ⟨N + 1, 0, none⟩)) := c
      exact wp_value (w' := A) (v := .pointer (some ⟨N + 1, 0, none⟩)) (by intro ρ h; have e := (h _).trans e; clear h; simp [execOp, go_sem, e, c']) (hK v _ A (fun _ => rfl) (fun _ _ => rfl) (hsame (by decide) (by decide) (by decide) (by decide) A rfl))
    · simp only [List.getElem?_toArray, List.getElem?_cons_zero, List.getElem?_cons_succ, Option.some.injEq] at ho
      subst ho
      have e := (H.ev0 6 (by decide)).trans c6
      have c' : A.cell? ⟨N + 1 + 1, 0, none⟩ = some (.pointer (some ⟨N + 1, 0, none⟩)) := Blk.cell hst.rest.t 0
      exact wp_value (w' := A) (v := .pointer (some ⟨N + 1, 0, none⟩)) (by intro ρ h; have e := (h _).trans e; clear h; simp [execOp, go_sem, e, c']) (hK v _ A (fun _ => rfl) (fun _ _ => rfl) (hsame (by decide) (by decide) (by decide) (by decide) A rfl))
    · simp only [List.getElem?_toArray, List.getElem?_cons_zero, List.getElem?_cons_succ, Option.some.injEq] at ho
      subst ho
      have e : a.eval (.tmp 37) = .pointer (some ⟨N + 1, 0, none⟩) := H.ev 1 (hdep 1 (by decide))
      exact wp_value (w' := A) (v := .pointer (some ⟨N + 1, 0, none⟩)) (by intro ρ h; have e := (h _).trans e; clear h; simp [execOp, go_sem, e]) (hK v _ A (fun _ => rfl) (fun _ _ => rfl) (hsame (by decide) (by decide) (by decide) (by decide) A rfl))
    · simp only [List.getElem?_toArray, List.getElem?_cons_zero, List.getElem?_cons_succ, Option.some.injEq] at ho
      subst ho
      have e : a.eval (.tmp 38) = .pointer (some ⟨N + 1, 0, none⟩) := H.ev 2 (hdep 2 (by decide))
      exact wp_value (w' := A) (v := .pointer (some ⟨N + 1, 2, none⟩)) (by intro ρ h; have e := (h _).trans e; clear h; simp [execOp, go_sem, e]) (hK v _ A (fun _ => rfl) (fun _ _ => rfl) (hsame (by decide) (by decide) (by decide) (by decide) A rfl))
    · simp only [List.getElem?_toArray, List.getElem?_cons_zero, List.getElem?_cons_succ, Option.some.injEq] at ho
      subst ho
      have e : a.eval (.tmp 39) = .pointer (some ⟨N + 1, 2, none⟩) := H.ev 3 (hdep 3 (by decide))
      have h7 : L.getD 7 false = false := by
        rcases hq : L.getD 7 false with _ | _
        · rfl
        · rw [(hst.d7 hq).2] at hl; cases hl
      have h10 : L.getD 10 false = false := by
        rcases hq : L.getD 10 false with _ | _
        · rfl
        · rw [hst.d10 hq] at h7; cases h7
      have c' : A.cell? ⟨N + 1, 2, none⟩ = some (.slice Al k cl) := Blk.cell (hst.tab h10) 2
      refine wp_value (w' := A) (v := .slice Al k cl) (by intro ρ h; have e := (h _).trans e; clear h; simp [execOp, go_sem, e, c']) (hK v _ A (fun _ => rfl) (fun _ _ => rfl) ?_)
      rw [getD_set_eq (by omega), getD_set_ne false (by decide), getD_set_ne false (by decide), getD_set_ne false (by decide)]
      exact { hst with d7 := fun h => ⟨(hst.d7 h).1, rfl⟩ }
    · simp only [List.getElem?_toArray, List.getElem?_cons_zero, List.getElem?_cons_succ, Option.some.injEq] at ho
      subst ho
      have e := (H.ev0 9 (by decide)).trans e9
      obtain ⟨it, hit, hz0, hz1, -⟩ := info_parts zeroBlk
      exact wp_load_row 101 (.tmp 9) rfl nbk e 101 (bval (blkB base s k)).toArray (0, 0) _ hst.rest.blk Tryd.underlying101 rfl (by rw [hit]; simp [hz1, bval_len]) (hK v _ A (fun _ => rfl) (fun _ _ => rfl) (hsame (by decide) (by decide) (by decide) (by decide) A rfl))
    · simp only [List.getElem?_toArray, List.getElem?_cons_zero, List.getElem?_cons_succ, Option.some.injEq] at ho
      subst ho
      have e : a.eval (.tmp 41) = .agg (bval (blkB base s k)).toArray := H.ev 5 (hdep 5 (by decide))
      obtain ⟨it, hit, hz0, hz1, -⟩ := info_parts zeroBlk
      have hn0 := hst.n0 hl
      obtain ⟨z, hz⟩ : ∃ z, z = Value.agg (Value.int .u32 0 :: (List.replicate 32 (0 : UInt8)).map bv).toArray := ⟨_, rfl⟩
      rw [← hz] at hz0
      have hrun := run_buildSlice A 94 101 1 #[(0, .agg (bval (blkB base s k)).toArray)] (bval (blkB base s k)).toArray it z Tryd.underlying94 hit hz0 (by rw [hz1]; omega) (by rw [hz1]; omega) (by rw [hz1]; exact fill_one 33 _ (bval_len _) _ (by simp))
      have hg := World.grownBy_alloc A (.cells (bval (blkB base s k)).toArray 101) none
      have h7 : L.getD 7 false = false := by
        rcases hq : L.getD 7 false with _ | _
        · rfl
        · rw [(hst.d7 hq).1] at hl; cases hl
      have h10 : L.getD 10 false = false := by
        rcases hq : L.getD 10 false with _ | _
        · rfl
        · rw [hst.d10 hq] at h7; cases h7
      refine wp_value (w' := A.alloc (.cells (bval (blkB base s k)).toArray 101)) (v := .slice (some ⟨A.heap.size, 0, none⟩) 1 1) (by intro ρ h; have e := (h _).trans e; clear h; simp only [execOp, List.map_toArray, List.map_cons, List.map_nil, e, Sem.run_bind, hrun, Result.andThen_ok]; rfl) (hK v _ _ (fun _ => by rw [hn0]; rfl) (fun _ _ => rfl) ?_)
      rw [getD_set_eq (by omega), getD_set_ne false (by decide), getD_set_ne false (by decide), getD_set_ne false (by decide), h7, h10]
      exact { rest := hst.rest.step hW hg (fun j e => by cases e) (by omega), grp := grp_apart hst.grp hg (by simp) (fun j e => by cases e), n0 := fun h => (by cases h), n1 := (by simp; have := hst.n1; omega), row := fun _ => (hst.row h7).alloc _, bld := fun _ _ => (by rw [← hn0]; exact Blk.new _ _ _), app := fun h => (by cases h), tab := fun _ => (hst.tab h10).alloc _, new := fun h => (by cases h), d10 := fun h => (by cases h), d7 := fun h => (by cases h) }
    · simp only [List.getElem?_toArray, List.getElem?_cons_zero, List.getElem?_cons_succ, Option.some.injEq] at ho
      subst ho
      have e1 : a.eval (.tmp 40) = .slice Al k cl := H.ev 4 (hdep 4 (by decide))
      have e2 : a.eval (.tmp 42) = .slice (some ⟨w3.heap.size, 0, none⟩) 1 1 := H.ev 6 (hdep 6 (by decide))
      have h6 : L.getD 6 false = true := hdep 6 (by decide)
      have h4 : L.getD 4 false = true := hdep 4 (by decide)
      have h10 : L.getD 10 false = false := by
        rcases hq : L.getD 10 false with _ | _
        · rfl
        · rw [hst.d10 hq] at hl; cases hl
      obtain ⟨it, hit, hz0, hz1, hz2⟩ := info_parts zeroBlk
      have hown := hst.row hl
      have hbl := hst.bld h6 hl
      obtain ⟨v', w', hrun, hown', hg, _, hloc⟩ := run_append_own_at (P := Tryd.prog) A (N + 5) 94 94 101 it _ 33 36 Tryd.underlying94 hit hz0 hz1 hz2 (by simp [Value.cells]) (by omega) _ k _ hown ⟨w3.heap.size, 0, none⟩ 1 1 (bval (blkB base s k)) (by rw [bval_len])
        (fun j u hu => by rw [addr_add, Nat.zero_add, Blk.cell hbl j]; simpa using hu) (bval_one _) (by simp only [maxLen]; omega) (by omega) (by have := hst.rest.size; omega)
      refine wp_value (w' := w') (v := v') (by intro ρ h; have e1 := (h _).trans e1; have e2 := (h _).trans e2; clear h; simp only [execOp, resolve, invoke, builtin, Sem.run_bind, Sem.run_pure, Result.andThen_ok, List.map_toArray, List.map_cons, List.map_nil, e1, e2, hrun]) (hK v' v' w' (fun _ => rfl) (fun j hj => V10_ne _ _ (fun e => by subst e; rw [hl] at hj; cases hj)) ?_)
      rw [getD_set_eq (by omega), getD_set_ne false (by decide), getD_set_ne false (by decide), getD_set_ne false (by decide), h6, h4, h10]
      have hne : ∀ q, q < N + 5 → some q ≠ (Value.slice Al k cl).ownBlock := fun q hq e => by have := (hlt q e.symm).1; omega
      exact { rest := hst.rest.step hW hg (fun j e => .inr (.inr ⟨(hlt j e).1, by have := (hlt j e).2; omega, by obtain ⟨cur, hc⟩ := own_cells hown e; exact ⟨_, _, _, hc⟩⟩)) (by omega), grp := grp_apart hst.grp hg (hne _ (by omega)) (fun j e => .inr (fun cur e' fr hh he => by obtain ⟨cur', hc⟩ := own_cells hown e; rw [hc] at hh; injection hh with hh; injection hh with _ hh; subst hh; revert he; decide)), n0 := fun h => (by cases h), n1 := Nat.le_trans hst.n1 hg.size, row := fun h => (by cases h), bld := fun _ h => (by cases h), app := fun _ => hown', tab := fun _ => (hst.tab h10).grown hg (hne _ (by omega)), new := fun h => (by cases h), d10 := fun h => (by cases h), d7 := fun _ => ⟨rfl, rfl⟩ }
    · simp only [List.getElem?_toArray, List.getElem?_cons_zero, List.getElem?_cons_succ, Option.some.injEq] at ho
      subst ho
      have e : a.eval (.tmp 36) = .pointer (some ⟨N + 1, 0, none⟩) := H.ev 0 (hdep 0 (by decide))
      exact wp_value (w' := A) (v := .pointer (some ⟨N + 1, 0, none⟩)) (by intro ρ h; have e := (h _).trans e; clear h; simp [execOp, go_sem, e]) (hK v _ A (fun _ => rfl) (fun _ _ => rfl) (hsame (by decide) (by decide) (by decide) (by decide) A rfl))
    · simp only [List.getElem?_toArray, List.getElem?_cons_zero, List.getElem?_cons_succ, Option.some.injEq] at ho
      subst ho
      have e : a.eval (.tmp 44) = .pointer (some ⟨N + 1, 0, none⟩) := H.ev 8 (hdep 8 (by decide))
      exact wp_value (w' := A) (v := .pointer (some ⟨N + 1, 2, none⟩)) (by intro ρ h; have e := (h _).trans e; clear h; simp [execOp, go_sem, e]) (hK v _ A (fun _ => rfl) (fun _ _ => rfl) (hsame (by decide) (by decide) (by decide) (by decide) A rfl))
    · simp only [List.getElem?_toArray, List.getElem?_cons_zero, List.getElem?_cons_succ, Option.some.injEq] at ho
      subst ho
      have e1 : a.eval (.tmp 45) = .pointer (some ⟨N + 1, 2, none⟩) := H.ev 9 (hdep 9 (by decide))
      have e2 : a.eval (.tmp 43) = v := H.ev 7 (hdep 7 (by decide))
      have h7 : L.getD 7 false = true := hdep 7 (by decide)
      have htab := hst.tab hl
      have happ := hst.app h7
      obtain ⟨Al', cl', rfl⟩ := own_slice happ
      have c' : A.cell? ⟨N + 1, 2, none⟩ = some (.slice Al k cl) := Blk.cell htab 2
      have c2 := Blk.frozen htab 2
      have hg := grown_set A ⟨N + 1, 2, none⟩ (.slice Al' (k + 1) cl')
      refine wp_unit (w' := A.setCell ⟨N + 1, 2, none⟩ (.slice Al' (k + 1) cl')) (by intro ρ h; have e1 := (h _).trans e1; have e2 := (h _).trans e2; clear h; simp [execOp, go_sem, e1, e2, c', c2]) (hK _ _ _ (fun h => by cases h) (fun _ _ => rfl) ?_)
      rw [getD_set_eq (by omega), getD_set_ne false (by decide), getD_set_ne false (by decide), getD_set_ne false (by decide), h7, (hst.d7 h7).1, (hst.d7 h7).2]
      exact { rest := hst.rest.step hW hg (fun j e => .inr (.inl (Option.some.inj e).symm)) (by omega), grp := grp_apart hst.grp hg (by simp) (fun j e => .inl (by have e : N + 1 = j := Option.some.inj e; omega)), n0 := fun h => (by cases h), n1 := Nat.le_trans hst.n1 hg.size, row := fun h => (by cases h), bld := fun _ h => (by cases h), app := fun _ => happ.kept hg (row_apart happ (fun j e => .inl (by have e : N + 1 = j := Option.some.inj e; omega))), tab := fun h => (by cases h), new := fun _ => Blk.set_ htab 2 _, d10 := fun _ => rfl, d7 := fun _ => ⟨rfl, rfl⟩ }
    · simp at ho
  · have hg : w3.grownBy w3.drew none := ⟨rfl, rfl, rfl, Nat.le_refl _, fun _ _ _ => rfl⟩
    have : R10 N nbk w3.heap.size s k nb cb Ab Al cl base W undef false false false false w3.drew := { rest := hR.step hW hg (fun j e => by cases e) (by omega), grp := grp_apart hgrp hg (by simp) (fun j e => by cases e), n0 := fun _ => rfl, n1 := Nat.le_refl _, row := fun _ => hown.kept hg (row_apart hown (fun j e => by cases e)), bld := fun h => (by cases h), app := fun h => (by cases h), tab := fun _ => hrow.grown hg (by simp), new := fun h => (by cases h), d10 := fun h => (by cases h), d7 := fun h => (by cases h) }
    exact this
  rintro v L a A0 H hall
  have hall' : ∀ i, i < 11 → L.getD i false = true := fun i hi => by
    have h1 := hall i hi
    have h2 : i < L.size := by rw [H.lsz]; exact hi
    rw [Array.getD_eq_getD_getElem?, Array.getElem?_eq_getElem h2] at h1 ⊢
    exact h1
  have hst := H.st
  rw [hall' 4 (by omega), hall' 6 (by omega), hall' 7 (by omega), hall' 10 (by omega)] at hst
  have c6' := (H.ev0 6 (by decide)).trans c6
  have c7' := (H.ev0 7 (by decide)).trans c7
  have c9 := (H.ev0 9 (by decide)).trans e9
  have hsz := H.size
  obtain ⟨bv0, hbv⟩ : ∃ x, x = v := ⟨_, rfl⟩
  have hrow := hst.app rfl
  have htab := hst.new rfl
  have hR := hst.rest
  have hgrp := hst.grp
  rw [← hbv] at hrow htab
  clear H hall hall' hst c6 c7 e9 hf6' hbv v L
  have c6 := c6'
  have c7 := c7'
  clear c6' c7'
  have hwf : (Lit.int .u32 (wk base s k)).wf = true := by
    have := rsum_bd (blkB base s k)
    have h1 : IntKind.u32.min = 0 := by decide
    have h2 : IntKind.u32.max = 4294967295 := by decide
    simp only [Lit.wf, Bool.and_eq_true, decide_eq_true_eq, h1, h2, wk]
    omega
  have hkw : (Lit.int .i64 (k : Int)).wf = true := by
    have h1 : IntKind.i64.min = -9223372036854775808 := by decide
    have h2 : IntKind.i64.max = 9223372036854775807 := by decide
    simp only [Lit.wf, Bool.and_eq_true, decide_eq_true_eq, h1, h2]
    omega
  show Code.wpIn _ _ _ _ _ a A0
  refine round_any (by kernel_rfl) (by kernel_rfl) (by rintro ⟨_, _, h⟩; exact absurd h.1 (by simp)) ?_
  obtain ⟨f11, hf11⟩ : ∃ x, x = a := ⟨_, rfl⟩
  rw [← hf11] at c6 c7 c9 hsz ⊢
  clear hf11 a
  refine any_vals (σ := Value × Value) (V11 N nbk A0.heap.size s k base) (fun v L A => R11 N nbk A0.heap.size s k nb cb Ab bv0 base W v (L.getD 12 false) (L.getD 14 false) (L.getD 15 false) (L.getD 16 false) A) f11 46 63 (by kernel_rfl) (by kernel_rfl) (by decide) (by kernel_rfl) ?_ hsz (undef, undef) ?_ ?_
  · rintro i o ho ⟨u, v⟩ L a A H hl hdep K hK
    have hst := H.st
    have hlsz : L.size = 17 := H.lsz
    have hsame : i ≠ 12 → i ≠ 14 → i ≠ 15 → i ≠ 16 → ∀ A', A' = A → R11 N nbk A0.heap.size s k nb cb Ab bv0 base W (u, v) ((L.setIfInBounds i true).getD 12 false) ((L.setIfInBounds i true).getD 14 false) ((L.setIfInBounds i true).getD 15 false) ((L.setIfInBounds i true).getD 16 false) A' := by
      rintro h4 h6 h7 h10 A' rfl
      rw [getD_set_ne false h4, getD_set_ne false h6, getD_set_ne false h7, getD_set_ne false h10]
      exact hst
    rcases i with _ | _ | _ | _ | _ | _ | _ | _ | _ | _ | _ | _ | _ | _ | _ | _ | _ | i
    · simp only [List.getElem?_toArray, List.getElem?_cons_zero, List.getElem?_cons_succ, Option.some.injEq] at ho
      subst ho
      have e := (H.ev0 6 (by decide)).trans c6
      have c' : A.cell? ⟨N + 1 + 1, 0, none⟩ = some (.pointer (some ⟨N + 1, 0, none⟩)) := Blk.cell hst.rest.t 0
      exact wp_value (w' := A) (v := .pointer (some ⟨N + 1, 0, none⟩)) (by intro ρ h; have e := (h _).trans e; clear h; simp [execOp, go_sem, e, c']) (hK (u, v) _ A (fun _ => rfl) (fun _ _ => rfl) (hsame (by decide) (by decide) (by decide) (by decide) A rfl))
    · simp only [List.getElem?_toArray, List.getElem?_cons_zero, List.getElem?_cons_succ, Option.some.injEq] at ho
      subst ho
      have e : a.eval (.tmp 46) = .pointer (some ⟨N + 1, 0, none⟩) := H.ev 0 (hdep 0 (by decide))
      exact wp_value (w' := A) (v := .pointer (some ⟨N + 1, 0, none⟩)) (by intro ρ h; have e := (h _).trans e; clear h; simp [execOp, go_sem, e]) (hK (u, v) _ A (fun _ => rfl) (fun _ _ => rfl) (hsame (by decide) (by decide) (by decide) (by decide) A rfl))
    · simp only [List.getElem?_toArray, List.getElem?_cons_zero, List.getElem?_cons_succ, Option.some.injEq] at ho
      subst ho
      have e : a.eval (.tmp 47) = .pointer (some ⟨N + 1, 0, none⟩) := H.ev 1 (hdep 1 (by decide))
      exact wp_value (w' := A) (v := .pointer (some ⟨N + 1, 3, none⟩)) (by intro ρ h; have e := (h _).trans e; clear h; simp [execOp, go_sem, e]) (hK (u, v) _ A (fun _ => rfl) (fun _ _ => rfl) (hsame (by decide) (by decide) (by decide) (by decide) A rfl))
    · simp only [List.getElem?_toArray, List.getElem?_cons_zero, List.getElem?_cons_succ, Option.some.injEq] at ho
      subst ho
      have e : a.eval (.tmp 48) = .pointer (some ⟨N + 1, 3, none⟩) := H.ev 2 (hdep 2 (by decide))
      have c' : A.cell? ⟨N + 1, 3, none⟩ = some (.map (some N)) := Blk.cell hst.tab 3
      exact wp_value (w' := A) (v := .map (some N)) (by intro ρ h; have e := (h _).trans e; clear h; simp [execOp, go_sem, e, c']) (hK (u, v) _ A (fun _ => rfl) (fun _ _ => rfl) (hsame (by decide) (by decide) (by decide) (by decide) A rfl))
    · simp only [List.getElem?_toArray, List.getElem?_cons_zero, List.getElem?_cons_succ, Option.some.injEq] at ho
      subst ho
      have e := (H.ev0 9 (by decide)).trans c9
      exact wp_value (w' := A) (v := .pointer (some ⟨nbk, 0, none⟩)) (by intro ρ h; have e := (h _).trans e; clear h; simp [execOp, go_sem, e]) (hK (u, v) _ A (fun _ => rfl) (fun _ _ => rfl) (hsame (by decide) (by decide) (by decide) (by decide) A rfl))
    · simp only [List.getElem?_toArray, List.getElem?_cons_zero, List.getElem?_cons_succ, Option.some.injEq] at ho
      subst ho
      have e : a.eval (.tmp 50) = .pointer (some ⟨nbk, 0, none⟩) := H.ev 4 (hdep 4 (by decide))
      have c' : A.cell? ⟨nbk, 0, none⟩ = some (.int .u32 (wk base s k)) := Blk.cell hst.rest.blk 0
      exact wp_value (w' := A) (v := .int .u32 (wk base s k)) (by intro ρ h; have e := (h _).trans e; clear h; simp [execOp, go_sem, e, c']) (hK (u, v) _ A (fun _ => rfl) (fun _ _ => rfl) (hsame (by decide) (by decide) (by decide) (by decide) A rfl))
    · simp only [List.getElem?_toArray, List.getElem?_cons_zero, List.getElem?_cons_succ, Option.some.injEq] at ho
      subst ho
      have e := (H.ev0 6 (by decide)).trans c6
      have c' : A.cell? ⟨N + 1 + 1, 0, none⟩ = some (.pointer (some ⟨N + 1, 0, none⟩)) := Blk.cell hst.rest.t 0
      exact wp_value (w' := A) (v := .pointer (some ⟨N + 1, 0, none⟩)) (by intro ρ h; have e := (h _).trans e; clear h; simp [execOp, go_sem, e, c']) (hK (u, v) _ A (fun _ => rfl) (fun _ _ => rfl) (hsame (by decide) (by decide) (by decide) (by decide) A rfl))
    · simp only [List.getElem?_toArray, List.getElem?_cons_zero, List.getElem?_cons_succ, Option.some.injEq] at ho
      subst ho
      have e : a.eval (.tmp 52) = .pointer (some ⟨N + 1, 0, none⟩) := H.ev 6 (hdep 6 (by decide))
      exact wp_value (w' := A) (v := .pointer (some ⟨N + 1, 0, none⟩)) (by intro ρ h; have e := (h _).trans e; clear h; simp [execOp, go_sem, e]) (hK (u, v) _ A (fun _ => rfl) (fun _ _ => rfl) (hsame (by decide) (by decide) (by decide) (by decide) A rfl))
    · simp only [List.getElem?_toArray, List.getElem?_cons_zero, List.getElem?_cons_succ, Option.some.injEq] at ho
      subst ho
      have e : a.eval (.tmp 53) = .pointer (some ⟨N + 1, 0, none⟩) := H.ev 7 (hdep 7 (by decide))
      exact wp_value (w' := A) (v := .pointer (some ⟨N + 1, 3, none⟩)) (by intro ρ h; have e := (h _).trans e; clear h; simp [execOp, go_sem, e]) (hK (u, v) _ A (fun _ => rfl) (fun _ _ => rfl) (hsame (by decide) (by decide) (by decide) (by decide) A rfl))
    · simp only [List.getElem?_toArray, List.getElem?_cons_zero, List.getElem?_cons_succ, Option.some.injEq] at ho
      subst ho
      have e : a.eval (.tmp 54) = .pointer (some ⟨N + 1, 3, none⟩) := H.ev 8 (hdep 8 (by decide))
      have c' : A.cell? ⟨N + 1, 3, none⟩ = some (.map (some N)) := Blk.cell hst.tab 3
      exact wp_value (w' := A) (v := .map (some N)) (by intro ρ h; have e := (h _).trans e; clear h; simp [execOp, go_sem, e, c']) (hK (u, v) _ A (fun _ => rfl) (fun _ _ => rfl) (hsame (by decide) (by decide) (by decide) (by decide) A rfl))
    · simp only [List.getElem?_toArray, List.getElem?_cons_zero, List.getElem?_cons_succ, Option.some.injEq] at ho
      subst ho
      have e := (H.ev0 9 (by decide)).trans c9
      exact wp_value (w' := A) (v := .pointer (some ⟨nbk, 0, none⟩)) (by intro ρ h; have e := (h _).trans e; clear h; simp [execOp, go_sem, e]) (hK (u, v) _ A (fun _ => rfl) (fun _ _ => rfl) (hsame (by decide) (by decide) (by decide) (by decide) A rfl))
    · simp only [List.getElem?_toArray, List.getElem?_cons_zero, List.getElem?_cons_succ, Option.some.injEq] at ho
      subst ho
      have e : a.eval (.tmp 56) = .pointer (some ⟨nbk, 0, none⟩) := H.ev 10 (hdep 10 (by decide))
      have c' : A.cell? ⟨nbk, 0, none⟩ = some (.int .u32 (wk base s k)) := Blk.cell hst.rest.blk 0
      exact wp_value (w' := A) (v := .int .u32 (wk base s k)) (by intro ρ h; have e := (h _).trans e; clear h; simp [execOp, go_sem, e, c']) (hK (u, v) _ A (fun _ => rfl) (fun _ _ => rfl) (hsame (by decide) (by decide) (by decide) (by decide) A rfl))
    · simp only [List.getElem?_toArray, List.getElem?_cons_zero, List.getElem?_cons_succ, Option.some.injEq] at ho
      subst ho
      have e1 : a.eval (.tmp 55) = .map (some N) := H.ev 9 (hdep 9 (by decide))
      have e2 : a.eval (.tmp 57) = .int .u32 (wk base s k) := H.ev 11 (hdep 11 (by decide))
      have h15 : L.getD 15 false = false := by
        rcases hq : L.getD 15 false with _ | _
        · rfl
        · rw [(hst.d15 hq).1] at hl; cases hl
      have h16 : L.getD 16 false = false := by
        rcases hq : L.getD 16 false with _ | _
        · rfl
        · rw [hst.d16 hq] at h15; cases h15
      obtain ⟨u', zs, hrun, hat, hoi, hzl, hback⟩ := (hst.grp hl).at (t := 93) (key := .int .u32 (wk base s k)) (kl := .int .u32 (wk base s k)) (Go.Maps.int_keyed Tryd.underlying34) Tryd.underlying93 ((Go.zero_of_info zeroInts).1 A) (by simp only [maxLen]; omega) (Go.Maps.keyOf_int_mk Tryd.underlying34 hwf)
      refine wp_value (w' := A) (v := u') (by intro ρ h; have e1 := (h _).trans e1; have e2 := (h _).trans e2; clear h; simp only [execOp, e1, e2, Sem.run_bind, hrun, Result.andThen_ok]; rfl) (hK (u', v) _ A (fun _ => rfl) (fun j hj => V11_ne12 _ _ _ (fun e => by subst e; rw [hl] at hj; cases hj)) ?_)
      rw [getD_set_eq (by omega), getD_set_ne false (by decide), getD_set_ne false (by decide), getD_set_ne false (by decide)]
      rw [h15, h16]
      exact { hst with bld := fun h _ => hst.bld h h15, grp := fun h => (by cases h), look := fun _ _ => ⟨zs, hoi, grp_of hoi hat, hzl, hback⟩, sto := fun h => (by cases h), fin := fun h => (by cases h), d16 := fun h => (by cases h), d15 := fun h => (by cases h) }
    · simp only [List.getElem?_toArray, List.getElem?_cons_zero, List.getElem?_cons_succ, Option.some.injEq] at ho
      subst ho
      have e := (H.ev0 7 (by decide)).trans c7
      exact wp_value (w' := A) (v := .int .i64 (k : Int)) (by intro ρ h; have e := (h _).trans e; clear h; simp only [execOp, e]; rfl) (hK (u, v) _ A (fun _ => rfl) (fun _ _ => rfl) (hsame (by decide) (by decide) (by decide) (by decide) A rfl))
    · simp only [List.getElem?_toArray, List.getElem?_cons_zero, List.getElem?_cons_succ, Option.some.injEq] at ho
      subst ho
      have e : a.eval (.tmp 59) = .int .i64 (k : Int) := H.ev 13 (hdep 13 (by decide))
      obtain ⟨it, hit, hz0, hz1, -⟩ := info_parts zeroInt
      have hn0 := hst.n0 hl
      have hrun := run_buildSlice A 102 3 1 #[(0, .int .i64 (k : Int))] #[.int .i64 (k : Int)] it (.int .i64 0) Tryd.underlying102 hit hz0 (by rw [hz1]; omega) (by rw [hz1]; omega) (by rw [hz1]; exact fill_int k)
      have hg := World.grownBy_alloc A (.cells #[.int .i64 (k : Int)] 3) none
      have h15 : L.getD 15 false = false := by
        rcases hq : L.getD 15 false with _ | _
        · rfl
        · rw [(hst.d15 hq).2] at hl; cases hl
      have h16 : L.getD 16 false = false := by
        rcases hq : L.getD 16 false with _ | _
        · rfl
        · rw [hst.d16 hq] at h15; cases h15
      refine wp_value (w' := A.alloc (.cells #[.int .i64 (k : Int)] 3)) (v := .slice (some ⟨A.heap.size, 0, none⟩) 1 1) (by intro ρ h; have e := (h _).trans e; clear h; simp only [execOp, List.map_toArray, List.map_cons, List.map_nil, e, Sem.run_bind, hrun, Result.andThen_ok]; rfl) (hK (u, v) _ _ (fun _ => by rw [hn0]; rfl) (fun _ _ => rfl) ?_)
      rw [getD_set_eq (by omega), getD_set_ne false (by decide), getD_set_ne false (by decide), getD_set_ne false (by decide)]
      rw [h15, h16]
      exact { rest := hst.rest.step hW hg (fun j e => by cases e) (by omega), row := hst.row.alloc _, tab := hst.tab.alloc _, n0 := fun h => (by cases h), n1 := (by simp; have := hst.n1; omega), bld := fun _ _ => (by rw [← hn0]; exact Blk.new _ _ _), grp := fun h => grp_apart (hst.grp h) hg (by simp) (fun j e => by cases e), look := fun h _ => (hst.look h h15).grown hg, sto := fun h => (by cases h), fin := fun h => (by cases h), d16 := fun h => (by cases h), d15 := fun h => (by cases h) }
    · simp only [List.getElem?_toArray, List.getElem?_cons_zero, List.getElem?_cons_succ, Option.some.injEq] at ho
      subst ho
      have e1 : a.eval (.tmp 58) = u := H.ev 12 (hdep 12 (by decide))
      have e2 : a.eval (.tmp 60) = .slice (some ⟨A0.heap.size, 0, none⟩) 1 1 := H.ev 14 (hdep 14 (by decide))
      have h12 : L.getD 12 false = true := hdep 12 (by decide)
      have h14 : L.getD 14 false = true := hdep 14 (by decide)
      have h16 : L.getD 16 false = false := by
        rcases hq : L.getD 16 false with _ | _
        · rfl
        · rw [hst.d16 hq] at hl; cases hl
      obtain ⟨it, hit, hz0, hz1, hz2⟩ := info_parts zeroInt
      have hbl := hst.bld h14 hl
      obtain ⟨zs, hoi, hzs, hzl, hback⟩ := hst.look h12 hl
      obtain ⟨v', w', hrun, hown', hg, _, hloc⟩ := run_append_own_at (P := Tryd.prog) A (N + 5) 102 102 3 it _ 1 8 Tryd.underlying102 hit hz0 hz1 hz2 rfl (by omega) _ zs.length _ hoi.1 ⟨A0.heap.size, 0, none⟩ 1 1 [.int .i64 (k : Int)] rfl
        (fun j u hu => by rw [addr_add, Nat.zero_add, Blk.cell hbl j]; simpa using hu) (by simp [Value.oneCell']) (by simp only [maxLen]; omega) (by omega) (by have := hst.rest.size; omega)
      have hoi' := hoi.appended hown' hkw
      obtain ⟨w9, hrun9, hgr9, hg9⟩ := hback w' v' (zs ++ [(k : Int)]) hg hoi' (by simp; omega) (hloc.imp id (fun h => ⟨_, h, Nat.le_refl _⟩))
      have hsto : Sto N s k base w' v' := by
        refine ⟨w9, hrun9, ?_, hg9⟩
        rw [hoi'.datum_pos (by simp), hzs] at hgr9
        exact hgr9
      refine wp_value (w' := w') (v := v') (by intro ρ h; have e1 := (h _).trans e1; have e2 := (h _).trans e2; clear h; simp only [execOp, resolve, invoke, builtin, Sem.run_bind, Sem.run_pure, Result.andThen_ok, List.map_toArray, List.map_cons, List.map_nil, e1, e2, hrun]) (hK (u, v') v' w' (fun _ => rfl) (fun j hj => V11_ne15 _ _ _ (fun e => by subst e; rw [hl] at hj; cases hj)) ?_)
      rw [getD_set_eq (by omega), getD_set_ne false (by decide), getD_set_ne false (by decide), getD_set_ne false (by decide)]
      rw [h12, h14, h16]
      have hge : ∀ j, u.ownBlock = some j → N + 5 ≤ j := fun j e => (World.ownsRow.lt hoi.1 j e).1
      have hne : ∀ q, q < N + 5 → some q ≠ u.ownBlock := fun q hq e => by have := hge q e.symm; omega
      exact { rest := hst.rest.step hW hg (fun j e => .inr (.inr ⟨hge j e, (fun hj => by obtain ⟨cur, hc⟩ := own_cells hoi.1 e; rw [hj, show A.heap[nbk]? = _ from hst.rest.blk] at hc; injection hc with hc; injection hc with _ hc; revert hc; decide), by obtain ⟨cur, hc⟩ := own_cells hoi.1 e; exact ⟨_, _, _, hc⟩⟩)) (by omega), row := hst.row.kept hg (row_apart hst.row (fun j e => .inr (fun cur e' fr hh he => by obtain ⟨cur', hc⟩ := own_cells hoi.1 e; rw [hc] at hh; injection hh with hh; injection hh with _ hh; subst hh; revert he; decide))), tab := hst.tab.grown hg (hne _ (by omega)), n0 := fun h => (by cases h), n1 := Nat.le_trans hst.n1 hg.size, bld := fun _ h => (by cases h), grp := fun h => (by cases h), look := fun _ h => (by cases h), sto := fun _ _ => hsto, fin := fun h => (by cases h), d16 := fun h => (by cases h), d15 := fun _ => ⟨rfl, rfl⟩ }
    · simp only [List.getElem?_toArray, List.getElem?_cons_zero, List.getElem?_cons_succ, Option.some.injEq] at ho
      subst ho
      have e1 : a.eval (.tmp 49) = .map (some N) := H.ev 3 (hdep 3 (by decide))
      have e2 : a.eval (.tmp 51) = .int .u32 (wk base s k) := H.ev 5 (hdep 5 (by decide))
      have e3 : a.eval (.tmp 61) = v := H.ev 15 (hdep 15 (by decide))
      have h15 : L.getD 15 false = true := hdep 15 (by decide)
      obtain ⟨w9, hrun, hgr, hg⟩ := hst.sto h15 hl
      refine wp_unit (w' := w9) (by intro ρ h; have e1 := (h _).trans e1; have e2 := (h _).trans e2; have e3 := (h _).trans e3; clear h; simp only [execOp, e1, e2, e3, Sem.run_bind, hrun, Result.andThen_ok]; rfl) (hK (u, v) _ w9 (fun h => by cases h) (fun _ _ => rfl) ?_)
      rw [getD_set_eq (by omega), getD_set_ne false (by decide), getD_set_ne false (by decide), getD_set_ne false (by decide)]
      rw [h15, (hst.d15 h15).1, (hst.d15 h15).2]
      exact { rest := hst.rest.step hW hg (fun j e => .inl (Option.some.inj e).symm) (by omega), row := hst.row.kept hg (row_apart hst.row (fun j e => .inl (by injection e with e; omega))), tab := hst.tab.grown hg (by simp), n0 := fun h => (by cases h), n1 := Nat.le_trans hst.n1 hg.size, bld := fun _ h => (by cases h), grp := fun h => (by cases h), look := fun _ h => (by cases h), sto := fun _ h => (by cases h), fin := fun _ => hgr, d16 := fun _ => rfl, d15 := fun _ => ⟨rfl, rfl⟩ }
    · simp at ho
  · have hg : A0.grownBy A0.drew none := ⟨rfl, rfl, rfl, Nat.le_refl _, fun _ _ _ => rfl⟩
    have : R11 N nbk A0.heap.size s k nb cb Ab bv0 base W (undef, undef) false false false false A0.drew := { rest := hR.step hW hg (fun j e => by cases e) (by omega), grp := fun _ => grp_apart hgrp hg (by simp) (fun j e => by cases e), n0 := fun _ => rfl, n1 := Nat.le_refl _, row := hrow.kept hg (row_apart hrow (fun j e => by cases e)), bld := fun h => (by cases h), tab := htab.grown hg (by simp), look := fun h => (by cases h), sto := fun h => (by cases h), fin := fun h => (by cases h), d16 := fun h => (by cases h), d15 := fun h => (by cases h) }
    exact this
  rintro v L a A H hall
  have hst := H.st
  have h16 : L.getD 16 false = true := by
    have h1 := hall 16 (by decide)
    have h2 : 16 < L.size := by rw [H.lsz]; decide
    rw [Array.getD_eq_getD_getElem?, Array.getElem?_eq_getElem h2] at h1 ⊢
    exact h1
  have hgr := hst.fin h16
  obtain ⟨Al', cl', rfl⟩ := own_slice hst.row
  exact ⟨rfl, hst.rest.from_, hst.rest.kp, ⟨⟨Al', cl', hst.tab, hst.row⟩, hgr⟩, hst.rest.t, hst.rest.below⟩
end Go.Proofs.YtmnanbcinfdbaaaDoor
end
