/- The walk of msg.kind; conditions: none beyond its hypotheses. -/
import Derived.Test.YthhhiiagppckhaaDoorMs1
import Derived.Deep.MidRow
import Derived.Laws.ResultCell
import Derived.Great.BuildSlice
namespace Go.Proofs.YthhhiiagppckhaaDoor
open Go.RowKit Go.Proofs.U
set_option linter.unusedVariables false

theorem results_row2 {P : Program} {fn : Func} {p u : Tmp} {ty : TypeId} (h : fn.results = #[.cell p ty, .tmp u]) (tmps : Array Value) (w : World) (g : Nat) (t : TypeId) (cs : Array Value) (d : TypeDesc)
    (hp : tmps.getD p undef = .pointer (some ⟨g, 0, none⟩)) (hg : Blk w g t cs)
    (hu : P.underlying ty = some d) (hd : d.isRow = true) (hi : (P.info? ty).map (·.size) = some cs.size) :
    (results fn tmps).run P w = .ok (.tuple #[.agg cs, tmps.getD u undef]) w := by
  rw [results_cell_tmp h, hp]
  simp only [asAddr, Sem.run_pure, Result.andThen_ok, run_loadVar_row w g t ty cs (0, 0) d hg hu (by cases d <;> simp_all [TypeDesc.isRow]) hi]
/-- a kind's name -/
def nameN : Nat → List UInt8
  | 1 => [104, 101, 108, 108, 111]
  | 2 => [119, 101, 108, 99, 111, 109, 101]
  | 3 => [108, 105, 115, 116]
  | 4 => [114, 111, 119, 115]
  | 5 => [102, 101, 116, 99, 104]
  | 6 => [99, 104, 117, 110, 107]
  | 7 => [97, 100, 111, 112, 116]
  | 8 => [115, 117, 114, 118, 101, 121]
  | 9 => [103, 101, 116]
  | 10 => [111, 102, 102, 101, 114]
  | 11 => [100, 97, 116, 97]
  | 12 => [100, 111, 110, 101]
  | 13 => [115, 101, 116, 116, 108, 101]
  | 14 => [98, 121, 101]
  | 15 => [111, 107]
  | 16 => [102, 97, 105, 108]
  | _ => []
theorem hasN_ne (k : Nat) (hk : k < 16) : decide (Ms.hasN (k + 1) ≠ []) = true := by
  have : ∀ k : Fin 16, decide (Ms.hasN (k.1 + 1) ≠ []) = true := by decide
  exact this ⟨k, hk⟩
def KindRet (w : World) (n : Nat) (e : Ending) (w' : World) : Prop :=
  e = .returned (.tuple #[.agg #[.string (strOf (nameN n)), .string (strOf (Ms.hasN n))], .bool (decide (Ms.hasN n ≠ []))]) ∧ Below w.heap.size w w'
theorem kinds_range {w : World} {g : Nat} {t : TypeId} {cells : Array Value} (hb : Blk w g t cells) (h : cells = ((List.range 16).flatMap fun k => [Value.string (strOf (nameN (k + 1))), .string (strOf (Ms.hasN (k + 1)))]).toArray) (k : Nat) (hk : k < 16) :
    World.rangeAt w g (k * 2) [.string (strOf (nameN (k + 1))), .string (strOf (Ms.hasN (k + 1)))] := by
  intro j v hv
  rw [hb.cell]
  clear hb
  subst h
  have hj : j = 0 ∨ j = 1 := by
    have := (List.getElem?_eq_some_iff.1 hv).1
    simp at this; omega
  obtain rfl | rfl | rfl | rfl | rfl | rfl | rfl | rfl | rfl | rfl | rfl | rfl | rfl | rfl | rfl | rfl : k = 0 ∨ k = 1 ∨ k = 2 ∨ k = 3 ∨ k = 4 ∨ k = 5 ∨ k = 6 ∨ k = 7 ∨ k = 8 ∨ k = 9 ∨ k = 10 ∨ k = 11 ∨ k = 12 ∨ k = 13 ∨ k = 14 ∨ k = 15 := by omega
  all_goals
    rcases hj with rfl | rfl <;>
    · simp only [List.getElem?_cons_zero, List.getElem?_cons_succ, Option.some.injEq] at hv
      subst hv
      rfl
theorem row_below {w w2 : World} {o o2 : Obj} (hg : ((w.alloc o).alloc o2).grownBy w2 (some (w.heap.size + 1))) : Below w.heap.size w w2 :=
  (((Below.refl _ _).alloc (Nat.le_refl _) o).alloc (by simp) o2).grown hg (by simp; omega) (fun k hk => by injection hk; omega)
theorem row_first {w w2 : World} {t : TypeId} {cs : Array Value} {o2 : Obj} (hg : ((w.alloc (.cells cs t)).alloc o2).grownBy w2 (some (w.heap.size + 1))) : Blk w2 w.heap.size t cs :=
  (((Blk.new w t cs).alloc o2).grown hg (by intro e; injection e with e; omega))
theorem blk_second (w : World) (o : Obj) (t : TypeId) (cs : Array Value) : Blk ((w.alloc o).alloc (.cells cs t)) (w.heap.size + 1) t cs := by have := Blk.new (w.alloc o) t cs; simpa using this
theorem infoKs : (Tryd.prog.info? 146).map (·.size) = some 32 := by kernel_rfl
theorem infoK : (Tryd.prog.info? 93).map (·.size) = some 2 := by kernel_rfl
set_option maxRecDepth 100000 in
set_option maxHeartbeats 4000000 in
theorem mkind_in (k : Nat) (hk : k < 16) (w : World) : Calls Tryd.prog 50 #[.int .i64 ((k : Int) + 1)] w (KindRet w (k + 1)) := by
  have i1 : ¬ ((k : Int) + 1 < 1) := by omega
  have i2 : ¬ (16 < (k : Int) + 1) := by omega
  have i3 : (k : Int) < 16 := by omega
  go_enter Tryd.func50, Tryd.ntmps50
  go_wp2_with (first
    | (refine wpList_store_blk rfl 146 (.tmp 4) (.tmp 21) rfl (w.heap.size + 1) _ rfl rfl _ _ (blk_second _ _ _ _) infoKs rfl (by simp [Value.oneCell']) ?_
       intro w2 hk2 hg2
       have hbw := row_below hg2
       have hk1 := row_first hg2
       have hR := Lib.hid (kinds_range hk2 rfl)
       clear hk2 hg2)
    | (refine wpList_buildTo rfl 146 _ rfl _ rfl #[.string ⟨#[104, 101, 108, 108, 111]⟩, .string ⟨#[112, 115]⟩, .string ⟨#[119, 101, 108, 99, 111, 109, 101]⟩, .string ⟨#[112, 115, 102]⟩, .string ⟨#[108, 105, 115, 116]⟩, .string ⟨#[115, 110, 80]⟩, .string ⟨#[114, 111, 119, 115]⟩, .string ⟨#[110, 102, 114]⟩, .string ⟨#[102, 101, 116, 99, 104]⟩, .string ⟨#[115, 110, 80, 118, 111]⟩, .string ⟨#[99, 104, 117, 110, 107]⟩, .string ⟨#[110, 119, 84, 111, 100]⟩, .string ⟨#[97, 100, 111, 112, 116]⟩, .string ⟨#[115, 110, 80, 119, 118, 84, 111, 100]⟩, .string ⟨#[115, 117, 114, 118, 101, 121]⟩, .string ⟨#[115, 110, 80, 102]⟩, .string ⟨#[103, 101, 116]⟩, .string ⟨#[115, 110, 80, 97, 118, 116, 111, 102]⟩, .string ⟨#[111, 102, 102, 101, 114]⟩, .string ⟨#[115, 110, 80, 97, 119, 118, 116, 84, 122, 102]⟩, .string ⟨#[100, 97, 116, 97]⟩, .string ⟨#[115, 110, 97, 111, 100]⟩, .string ⟨#[100, 111, 110, 101]⟩, .string ⟨#[115, 110, 97]⟩, .string ⟨#[115, 101, 116, 116, 108, 101]⟩, .string ⟨#[115, 110, 80, 97, 118, 116]⟩, .string ⟨#[98, 121, 101]⟩, .string ⟨#[115, 110]⟩, .string ⟨#[111, 107]⟩, .string ⟨#[110, 111, 102]⟩, .string ⟨#[102, 97, 105, 108]⟩, .string ⟨#[110, 99]⟩] (by kernel_rfl) ?_)
    | (refine wpList_load_mid rfl 93 (.tmp 31) rfl (w.heap.size + 1) (k * 2) rfl [.string (strOf (nameN (k + 1))), .string (strOf (Ms.hasN (k + 1)))] _ (hR.out k hk) Tryd.underlying93 rfl infoK ?_)
    | (refine wpList_store_blk rfl 93 (.tmp 2) (.tmp 32) rfl w.heap.size _ rfl rfl _ _ hk1 infoK rfl (by simp [Value.oneCell']) ?_
       intro w3 hk3 hg3))
  refine bodyPost_ret (results_row2 Tryd.results50 _ _ w.heap.size _ _ _ rfl hk3 Tryd.underlying93 rfl infoK) rfl ⟨?_, hbw.grown hg3 hbw.size (fun k hk => by injection hk; omega)⟩
  rw [show decide (Ms.hasN (k + 1) ≠ []) = true from hasN_ne k hk]
  rfl
set_option maxRecDepth 100000 in
set_option maxHeartbeats 4000000 in
theorem mkind_no (k : Int) (hk : k < 1 ∨ 16 < k) (w : World) : Calls Tryd.prog 50 #[.int .i64 k] w (KindRet w 0) := by
  by_cases h1 : k < 1
  · go_enter Tryd.func50, Tryd.ntmps50
    go_wp2_with (first
      | (refine wpList_store_blk rfl 146 (.tmp 4) (.tmp 21) rfl (w.heap.size + 1) _ rfl rfl _ _ (blk_second _ _ _ _) infoKs rfl (by simp [Value.oneCell']) ?_
         intro w2 hk2 hg2
         have hbw := row_below hg2
         have hk1 := row_first hg2
         have hR := Lib.hid (kinds_range hk2 rfl)
         clear hk2 hg2)
      | (refine wpList_buildTo rfl 146 _ rfl _ rfl #[.string ⟨#[104, 101, 108, 108, 111]⟩, .string ⟨#[112, 115]⟩, .string ⟨#[119, 101, 108, 99, 111, 109, 101]⟩, .string ⟨#[112, 115, 102]⟩, .string ⟨#[108, 105, 115, 116]⟩, .string ⟨#[115, 110, 80]⟩, .string ⟨#[114, 111, 119, 115]⟩, .string ⟨#[110, 102, 114]⟩, .string ⟨#[102, 101, 116, 99, 104]⟩, .string ⟨#[115, 110, 80, 118, 111]⟩, .string ⟨#[99, 104, 117, 110, 107]⟩, .string ⟨#[110, 119, 84, 111, 100]⟩, .string ⟨#[97, 100, 111, 112, 116]⟩, .string ⟨#[115, 110, 80, 119, 118, 84, 111, 100]⟩, .string ⟨#[115, 117, 114, 118, 101, 121]⟩, .string ⟨#[115, 110, 80, 102]⟩, .string ⟨#[103, 101, 116]⟩, .string ⟨#[115, 110, 80, 97, 118, 116, 111, 102]⟩, .string ⟨#[111, 102, 102, 101, 114]⟩, .string ⟨#[115, 110, 80, 97, 119, 118, 116, 84, 122, 102]⟩, .string ⟨#[100, 97, 116, 97]⟩, .string ⟨#[115, 110, 97, 111, 100]⟩, .string ⟨#[100, 111, 110, 101]⟩, .string ⟨#[115, 110, 97]⟩, .string ⟨#[115, 101, 116, 116, 108, 101]⟩, .string ⟨#[115, 110, 80, 97, 118, 116]⟩, .string ⟨#[98, 121, 101]⟩, .string ⟨#[115, 110]⟩, .string ⟨#[111, 107]⟩, .string ⟨#[110, 111, 102]⟩, .string ⟨#[102, 97, 105, 108]⟩, .string ⟨#[110, 99]⟩] (by kernel_rfl) ?_)
      | (refine wpList_store_blk rfl 93 (.tmp 2) (.tmp 28) rfl w.heap.size _ rfl rfl _ _ hk1 infoK rfl (by simp [Value.oneCell']) ?_
         intro w3 hk3 hg3))
    refine bodyPost_ret (results_row2 Tryd.results50 _ _ w.heap.size _ _ _ rfl hk3 Tryd.underlying93 rfl infoK) rfl ⟨?_, hbw.grown hg3 hbw.size (fun k hk => by injection hk; omega)⟩
    rfl
  · have h2 : 16 < k := by omega
    go_enter Tryd.func50, Tryd.ntmps50
    go_wp2_with (first
      | (refine wpList_store_blk rfl 146 (.tmp 4) (.tmp 21) rfl (w.heap.size + 1) _ rfl rfl _ _ (blk_second _ _ _ _) infoKs rfl (by simp [Value.oneCell']) ?_
         intro w2 hk2 hg2
         have hbw := row_below hg2
         have hk1 := row_first hg2
         have hR := Lib.hid (kinds_range hk2 rfl)
         clear hk2 hg2)
      | (refine wpList_buildTo rfl 146 _ rfl _ rfl #[.string ⟨#[104, 101, 108, 108, 111]⟩, .string ⟨#[112, 115]⟩, .string ⟨#[119, 101, 108, 99, 111, 109, 101]⟩, .string ⟨#[112, 115, 102]⟩, .string ⟨#[108, 105, 115, 116]⟩, .string ⟨#[115, 110, 80]⟩, .string ⟨#[114, 111, 119, 115]⟩, .string ⟨#[110, 102, 114]⟩, .string ⟨#[102, 101, 116, 99, 104]⟩, .string ⟨#[115, 110, 80, 118, 111]⟩, .string ⟨#[99, 104, 117, 110, 107]⟩, .string ⟨#[110, 119, 84, 111, 100]⟩, .string ⟨#[97, 100, 111, 112, 116]⟩, .string ⟨#[115, 110, 80, 119, 118, 84, 111, 100]⟩, .string ⟨#[115, 117, 114, 118, 101, 121]⟩, .string ⟨#[115, 110, 80, 102]⟩, .string ⟨#[103, 101, 116]⟩, .string ⟨#[115, 110, 80, 97, 118, 116, 111, 102]⟩, .string ⟨#[111, 102, 102, 101, 114]⟩, .string ⟨#[115, 110, 80, 97, 119, 118, 116, 84, 122, 102]⟩, .string ⟨#[100, 97, 116, 97]⟩, .string ⟨#[115, 110, 97, 111, 100]⟩, .string ⟨#[100, 111, 110, 101]⟩, .string ⟨#[115, 110, 97]⟩, .string ⟨#[115, 101, 116, 116, 108, 101]⟩, .string ⟨#[115, 110, 80, 97, 118, 116]⟩, .string ⟨#[98, 121, 101]⟩, .string ⟨#[115, 110]⟩, .string ⟨#[111, 107]⟩, .string ⟨#[110, 111, 102]⟩, .string ⟨#[102, 97, 105, 108]⟩, .string ⟨#[110, 99]⟩] (by kernel_rfl) ?_)
      | (refine wpList_store_blk rfl 93 (.tmp 2) (.tmp 28) rfl w.heap.size _ rfl rfl _ _ hk1 infoK rfl (by simp [Value.oneCell']) ?_
         intro w3 hk3 hg3))
    refine bodyPost_ret (results_row2 Tryd.results50 _ _ w.heap.size _ _ _ rfl hk3 Tryd.underlying93 rfl infoK) rfl ⟨?_, hbw.grown hg3 hbw.size (fun k hk => by injection hk; omega)⟩
    rfl
end Go.Proofs.YthhhiiagppckhaaDoor
