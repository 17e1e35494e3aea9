/- The walk of msg.kind; conditions: none beyond its hypotheses. A message in memory: its cells, its bytes, its rows, and what leaves them as they are; conditions: none beyond their hypotheses. -/
import Derived.Test.YthhhiiagppckhaaGreatDoorMgMs1
import Derived.Deep.MidRow
import Derived.Laws.ResultCell
import Derived.Great.BuildSlice
set_option linter.unusedSimpArgs false
set_option linter.unusedVariables false
section
namespace Go.Proofs.YthhhiiagppckhaaGreatDoor
open Go.RowKit Go.Proofs.U
set_option linter.unusedVariables false

theorem results_row2 {P : Program} {fn : Func} {p u : Tmp} {ty : TypeId} (h : fn.results = #[.cell p ty, .tmp u]) (tmps : Array Value) (w : World) (g : Nat) (t : TypeId) (cs : Array Value) (d : TypeDesc)
    (hp : tmps.getD p undef = .pointer (some ⟨g, 0, none⟩)) (hg : Blk w g t cs)
    (hu : P.underlying ty = some d) (hd : d.isRow = true) (hi : (P.info? ty).map (·.size) = some cs.size) :
    (results fn tmps).run P w = .ok (.tuple #[.agg cs, tmps.getD u undef]) w := by
  rw [results_cell_tmp h, hp]
  simp only [asAddr, Sem.run_pure, Result.andThen_ok, run_loadVar_row w g t ty cs (0, 0) d hg hu (by cases d <;> simp_all [TypeDesc.isRow]) hi]
/-- a kind's name -/
def nameN : Nat → List UInt8
  | 1 => [104, 101, 108, 108, 111]
  | 2 => [119, 101, 108, 99, 111, 109, 101]
  | 3 => [108, 105, 115, 116]
  | 4 => [114, 111, 119, 115]
  | 5 => [102, 101, 116, 99, 104]
  | 6 => [99, 104, 117, 110, 107]
  | 7 => [97, 100, 111, 112, 116]
  | 8 => [115, 117, 114, 118, 101, 121]
  | 9 => [103, 101, 116]
  | 10 => [111, 102, 102, 101, 114]
  | 11 => [100, 97, 116, 97]
  | 12 => [100, 111, 110, 101]
  | 13 => [115, 101, 116, 116, 108, 101]
  | 14 => [98, 121, 101]
  | 15 => [111, 107]
  | 16 => [102, 97, 105, 108]
  | _ => []
theorem hasN_ne (k : Nat) (hk : k < 16) : decide (Ms.hasN (k + 1) ≠ []) = true := by
  have : ∀ k : Fin 16, decide (Ms.hasN (k.1 + 1) ≠ []) = true := by decide
  exact this ⟨k, hk⟩
def KindRet (w : World) (n : Nat) (e : Ending) (w' : World) : Prop :=
  e = .returned (.tuple #[.agg #[.string (strOf (nameN n)), .string (strOf (Ms.hasN n))], .bool (decide (Ms.hasN n ≠ []))]) ∧ Below w.heap.size w w'
theorem kinds_range {w : World} {g : Nat} {t : TypeId} {cells : Array Value} (hb : Blk w g t cells) (h : cells = ((List.range 16).flatMap fun k => [Value.string (strOf (nameN (k + 1))), .string (strOf (Ms.hasN (k + 1)))]).toArray) (k : Nat) (hk : k < 16) :
    World.rangeAt w g (k * 2) [.string (strOf (nameN (k + 1))), .string (strOf (Ms.hasN (k + 1)))] := by
  intro j v hv
  rw [hb.cell]
  clear hb
  subst h
  have hj : j = 0 ∨ j = 1 := by
    have := (List.getElem?_eq_some_iff.1 hv).1
    simp at this; omega
  obtain rfl | rfl | rfl | rfl | rfl | rfl | rfl | rfl | rfl | rfl | rfl | rfl | rfl | rfl | rfl | rfl : k = 0 ∨ k = 1 ∨ k = 2 ∨ k = 3 ∨ k = 4 ∨ k = 5 ∨ k = 6 ∨ k = 7 ∨ k = 8 ∨ k = 9 ∨ k = 10 ∨ k = 11 ∨ k = 12 ∨ k = 13 ∨ k = 14 ∨ k = 15 := by omega
  all_goals
    rcases hj with rfl | rfl <;>
    · simp only [List.getElem?_cons_zero, List.getElem?_cons_succ, Option.some.injEq] at hv
      subst hv
      rfl
theorem row_below {w w2 : World} {o o2 : Obj} (hg : ((w.alloc o).alloc o2).grownBy w2 (some (w.heap.size + 1))) : Below w.heap.size w w2 :=
  (((Below.refl _ _).alloc (Nat.le_refl _) o).alloc (by simp) o2).grown hg (by simp; omega) (fun k hk => by injection hk; omega)
theorem row_first {w w2 : World} {t : TypeId} {cs : Array Value} {o2 : Obj} (hg : ((w.alloc (.cells cs t)).alloc o2).grownBy w2 (some (w.heap.size + 1))) : Blk w2 w.heap.size t cs :=
  (((Blk.new w t cs).alloc o2).grown hg (by intro e; injection e with e; omega))
theorem blk_second (w : World) (o : Obj) (t : TypeId) (cs : Array Value) : Blk ((w.alloc o).alloc (.cells cs t)) (w.heap.size + 1) t cs := by have := Blk.new (w.alloc o) t cs; simpa using this
theorem infoKs : (Tryz.prog.info? 119).map (·.size) = some 32 := by kernel_rfl
theorem infoK : (Tryz.prog.info? 86).map (·.size) = some 2 := by kernel_rfl
set_option maxRecDepth 100000 in
set_option maxHeartbeats 4000000 in
theorem mkind_in (k : Nat) (hk : k < 16) (w : World) : Calls Tryz.prog 36 #[.int .i64 ((k : Int) + 1)] w (KindRet w (k + 1)) := by
  have i1 : ¬ ((k : Int) + 1 < 1) := by omega
  have i2 : ¬ (16 < (k : Int) + 1) := by omega
  have i3 : (k : Int) < 16 := by omega
  go_enter Tryz.func36, Tryz.ntmps36
  go_wp2_with (first
    | (refine wpList_store_blk rfl 119 (.tmp 4) (.tmp 21) rfl (w.heap.size + 1) _ rfl rfl _ _ (blk_second _ _ _ _) infoKs rfl (by simp [Value.oneCell']) ?_
       intro w2 hk2 hg2
       have hbw := row_below hg2
       have hk1 := row_first hg2
       have hR := Lib.hid (kinds_range hk2 rfl)
       clear hk2 hg2)
    | (refine wpList_buildTo rfl 119 _ rfl _ rfl #[.string ⟨#[104, 101, 108, 108, 111]⟩, .string ⟨#[112, 115]⟩, .string ⟨#[119, 101, 108, 99, 111, 109, 101]⟩, .string ⟨#[112, 115, 102]⟩, .string ⟨#[108, 105, 115, 116]⟩, .string ⟨#[115, 110, 80]⟩, .string ⟨#[114, 111, 119, 115]⟩, .string ⟨#[110, 102, 114]⟩, .string ⟨#[102, 101, 116, 99, 104]⟩, .string ⟨#[115, 110, 80, 118, 111]⟩, .string ⟨#[99, 104, 117, 110, 107]⟩, .string ⟨#[110, 119, 84, 111, 100]⟩, .string ⟨#[97, 100, 111, 112, 116]⟩, .string ⟨#[115, 110, 80, 119, 118, 84, 111, 100]⟩, .string ⟨#[115, 117, 114, 118, 101, 121]⟩, .string ⟨#[115, 110, 80, 102]⟩, .string ⟨#[103, 101, 116]⟩, .string ⟨#[115, 110, 80, 97, 118, 116, 111, 102]⟩, .string ⟨#[111, 102, 102, 101, 114]⟩, .string ⟨#[115, 110, 80, 97, 119, 118, 116, 84, 122, 102]⟩, .string ⟨#[100, 97, 116, 97]⟩, .string ⟨#[115, 110, 97, 111, 100]⟩, .string ⟨#[100, 111, 110, 101]⟩, .string ⟨#[115, 110, 97]⟩, .string ⟨#[115, 101, 116, 116, 108, 101]⟩, .string ⟨#[115, 110, 80, 97, 118, 116]⟩, .string ⟨#[98, 121, 101]⟩, .string ⟨#[115, 110]⟩, .string ⟨#[111, 107]⟩, .string ⟨#[110, 111, 102]⟩, .string ⟨#[102, 97, 105, 108]⟩, .string ⟨#[110, 99]⟩] (by kernel_rfl) ?_)
    | (refine wpList_load_mid rfl 86 (.tmp 31) rfl (w.heap.size + 1) (k * 2) rfl [.string (strOf (nameN (k + 1))), .string (strOf (Ms.hasN (k + 1)))] _ (hR.out k hk) Tryz.underlying86 rfl infoK ?_)
    | (refine wpList_store_blk rfl 86 (.tmp 2) (.tmp 32) rfl w.heap.size _ rfl rfl _ _ hk1 infoK rfl (by simp [Value.oneCell']) ?_
       intro w3 hk3 hg3))
  refine bodyPost_ret (results_row2 Tryz.results36 _ _ w.heap.size _ _ _ rfl hk3 Tryz.underlying86 rfl infoK) rfl ⟨?_, hbw.grown hg3 hbw.size (fun k hk => by injection hk; omega)⟩
  rw [show decide (Ms.hasN (k + 1) ≠ []) = true from hasN_ne k hk]
  rfl
set_option maxRecDepth 100000 in
set_option maxHeartbeats 4000000 in
theorem mkind_no (k : Int) (hk : k < 1 ∨ 16 < k) (w : World) : Calls Tryz.prog 36 #[.int .i64 k] w (KindRet w 0) := by
  by_cases h1 : k < 1
  · go_enter Tryz.func36, Tryz.ntmps36
    go_wp2_with (first
      | (refine wpList_store_blk rfl 119 (.tmp 4) (.tmp 21) rfl (w.heap.size + 1) _ rfl rfl _ _ (blk_second _ _ _ _) infoKs rfl (by simp [Value.oneCell']) ?_
         intro w2 hk2 hg2
         have hbw := row_below hg2
         have hk1 := row_first hg2
         have hR := Lib.hid (kinds_range hk2 rfl)
         clear hk2 hg2)
      | (refine wpList_buildTo rfl 119 _ rfl _ rfl #[.string ⟨#[104, 101, 108, 108, 111]⟩, .string ⟨#[112, 115]⟩, .string ⟨#[119, 101, 108, 99, 111, 109, 101]⟩, .string ⟨#[112, 115, 102]⟩, .string ⟨#[108, 105, 115, 116]⟩, .string ⟨#[115, 110, 80]⟩, .string ⟨#[114, 111, 119, 115]⟩, .string ⟨#[110, 102, 114]⟩, .string ⟨#[102, 101, 116, 99, 104]⟩, .string ⟨#[115, 110, 80, 118, 111]⟩, .string ⟨#[99, 104, 117, 110, 107]⟩, .string ⟨#[110, 119, 84, 111, 100]⟩, .string ⟨#[97, 100, 111, 112, 116]⟩, .string ⟨#[115, 110, 80, 119, 118, 84, 111, 100]⟩, .string ⟨#[115, 117, 114, 118, 101, 121]⟩, .string ⟨#[115, 110, 80, 102]⟩, .string ⟨#[103, 101, 116]⟩, .string ⟨#[115, 110, 80, 97, 118, 116, 111, 102]⟩, .string ⟨#[111, 102, 102, 101, 114]⟩, .string ⟨#[115, 110, 80, 97, 119, 118, 116, 84, 122, 102]⟩, .string ⟨#[100, 97, 116, 97]⟩, .string ⟨#[115, 110, 97, 111, 100]⟩, .string ⟨#[100, 111, 110, 101]⟩, .string ⟨#[115, 110, 97]⟩, .string ⟨#[115, 101, 116, 116, 108, 101]⟩, .string ⟨#[115, 110, 80, 97, 118, 116]⟩, .string ⟨#[98, 121, 101]⟩, .string ⟨#[115, 110]⟩, .string ⟨#[111, 107]⟩, .string ⟨#[110, 111, 102]⟩, .string ⟨#[102, 97, 105, 108]⟩, .string ⟨#[110, 99]⟩] (by kernel_rfl) ?_)
      | (refine wpList_store_blk rfl 86 (.tmp 2) (.tmp 28) rfl w.heap.size _ rfl rfl _ _ hk1 infoK rfl (by simp [Value.oneCell']) ?_
         intro w3 hk3 hg3))
    refine bodyPost_ret (results_row2 Tryz.results36 _ _ w.heap.size _ _ _ rfl hk3 Tryz.underlying86 rfl infoK) rfl ⟨?_, hbw.grown hg3 hbw.size (fun k hk => by injection hk; omega)⟩
    rfl
  · have h2 : 16 < k := by omega
    go_enter Tryz.func36, Tryz.ntmps36
    go_wp2_with (first
      | (refine wpList_store_blk rfl 119 (.tmp 4) (.tmp 21) rfl (w.heap.size + 1) _ rfl rfl _ _ (blk_second _ _ _ _) infoKs rfl (by simp [Value.oneCell']) ?_
         intro w2 hk2 hg2
         have hbw := row_below hg2
         have hk1 := row_first hg2
         have hR := Lib.hid (kinds_range hk2 rfl)
         clear hk2 hg2)
      | (refine wpList_buildTo rfl 119 _ rfl _ rfl #[.string ⟨#[104, 101, 108, 108, 111]⟩, .string ⟨#[112, 115]⟩, .string ⟨#[119, 101, 108, 99, 111, 109, 101]⟩, .string ⟨#[112, 115, 102]⟩, .string ⟨#[108, 105, 115, 116]⟩, .string ⟨#[115, 110, 80]⟩, .string ⟨#[114, 111, 119, 115]⟩, .string ⟨#[110, 102, 114]⟩, .string ⟨#[102, 101, 116, 99, 104]⟩, .string ⟨#[115, 110, 80, 118, 111]⟩, .string ⟨#[99, 104, 117, 110, 107]⟩, .string ⟨#[110, 119, 84, 111, 100]⟩, .string ⟨#[97, 100, 111, 112, 116]⟩, .string ⟨#[115, 110, 80, 119, 118, 84, 111, 100]⟩, .string ⟨#[115, 117, 114, 118, 101, 121]⟩, .string ⟨#[115, 110, 80, 102]⟩, .string ⟨#[103, 101, 116]⟩, .string ⟨#[115, 110, 80, 97, 118, 116, 111, 102]⟩, .string ⟨#[111, 102, 102, 101, 114]⟩, .string ⟨#[115, 110, 80, 97, 119, 118, 116, 84, 122, 102]⟩, .string ⟨#[100, 97, 116, 97]⟩, .string ⟨#[115, 110, 97, 111, 100]⟩, .string ⟨#[100, 111, 110, 101]⟩, .string ⟨#[115, 110, 97]⟩, .string ⟨#[115, 101, 116, 116, 108, 101]⟩, .string ⟨#[115, 110, 80, 97, 118, 116]⟩, .string ⟨#[98, 121, 101]⟩, .string ⟨#[115, 110]⟩, .string ⟨#[111, 107]⟩, .string ⟨#[110, 111, 102]⟩, .string ⟨#[102, 97, 105, 108]⟩, .string ⟨#[110, 99]⟩] (by kernel_rfl) ?_)
      | (refine wpList_store_blk rfl 86 (.tmp 2) (.tmp 28) rfl w.heap.size _ rfl rfl _ _ hk1 infoK rfl (by simp [Value.oneCell']) ?_
         intro w3 hk3 hg3))
    refine bodyPost_ret (results_row2 Tryz.results36 _ _ w.heap.size _ _ _ rfl hk3 Tryz.underlying86 rfl infoK) rfl ⟨?_, hbw.grown hg3 hbw.size (fun k hk => by injection hk; omega)⟩
    rfl
end Go.Proofs.YthhhiiagppckhaaGreatDoor
end

section
namespace Go.Proofs.YthhhiiagppckhaaGreatDoor
open Go.RowKit Go.Proofs.U
set_option linter.unusedVariables false

/-- a block of bytes or of rows, or an old one -/
def Held (w : World) (B0 k : Nat) : Prop := k < B0 ∨ ∃ cur T fr, w.heap[k]? = some (.cells cur T fr) ∧ (T = 5 ∨ T = 52)
/-- what leaves bytes and rows as they are -/
structure Kept (B0 : Nat) (w w' : World) : Prop where
  size : w.heap.size ≤ w'.heap.size
  block : ∀ k, k < w.heap.size → Held w B0 k → w'.heap[k]? = w.heap[k]?
theorem Kept.refl (B0 : Nat) (w : World) : Kept B0 w w := ⟨Nat.le_refl _, fun _ _ _ => rfl⟩
theorem Held.kept {B0 k : Nat} {w w' : World} (h : Held w B0 k) (hk : k < w.heap.size) (h' : Kept B0 w w') : Held w' B0 k := by
  rcases h with h | ⟨cur, T, fr, e, ht⟩
  · exact .inl h
  · exact .inr ⟨cur, T, fr, (h'.block k hk (.inr ⟨cur, T, fr, e, ht⟩)).trans e, ht⟩
theorem Kept.trans {B0 : Nat} {a b c : World} (h : Kept B0 a b) (k : Kept B0 b c) : Kept B0 a c :=
  ⟨Nat.le_trans h.size k.size, fun i hi hh => (k.block i (Nat.lt_of_lt_of_le hi h.size) (hh.kept hi h)).trans (h.block i hi hh)⟩
theorem kept_below {B0 : Nat} {w w' : World} (h : Below w.heap.size w w') : Kept B0 w w' := ⟨h.size, fun k hk _ => h.block k hk⟩
theorem not_held {B0 g : Nat} {w : World} {T : TypeId} {cs : Array Value} (hB : B0 ≤ g) (hk : Blk w g T cs) (h1 : T ≠ 5) (h2 : T ≠ 52) : ¬ Held w B0 g := by
  rintro (h | ⟨cur, T', fr, e, ht⟩)
  · omega
  · unfold Blk at hk
    rw [hk] at e
    injection e with e
    injection e with _ e
    subst e
    rcases ht with ht | ht
    · exact h1 ht
    · exact h2 ht
theorem kept_grown {B0 g : Nat} {w w' : World} {T : TypeId} {cs : Array Value} (hg : w.grownBy w' (some g)) (hB : B0 ≤ g) (hk : Blk w g T cs) (h1 : T ≠ 5) (h2 : T ≠ 52) : Kept B0 w w' :=
  ⟨hg.size, fun k hlt hh => hg.block k hlt fun e => by
    injection e with e
    subst e
    exact not_held hB hk h1 h2 hh⟩
theorem kept_eye {B0 g B1 : Nat} {w w' : World} {b : List UInt8} {f : Nat} {T : TypeId} (hg : w.grownBy w' (some g)) (hB : B0 ≤ g) (h : EyeW w T g B1 b f) (h1 : T ≠ 5) (h2 : T ≠ 52) : Kept B0 w w' := by
  obtain ⟨_, _, _, hk, _⟩ := h
  exact kept_grown hg hB hk h1 h2
theorem kept_iter {B0 k : Nat} {w : World} {s : ByteArray} {p : Nat} (hk : w.heap[k]? = some (.stringIter s p)) (hB : B0 ≤ k) (p' : Nat) : Kept B0 w (w.iterAt k s p') :=
  ⟨by simp [World.iterAt], fun j hj hh => Lib.iterAt_other w k j s p' fun e => by
    subst e
    rcases hh with h | ⟨cur, T, fr, e, _⟩
    · omega
    · rw [hk] at e; injection e with e; cases e⟩
/-- bytes behind a slice value: in old blocks, or in rows of bytes -/
def Dat (w : World) (B0 : Nat) (A : Option Addr) (bs : List UInt8) : Prop :=
  BS w w.heap.size A bs.length bs ∧ (0 < bs.length → ∀ a, A = some a → Held w B0 a.block)
theorem Dat.nil (w : World) (B0 : Nat) (A : Option Addr) : Dat w B0 A [] := ⟨BS.nil _ _ _, fun h => absurd h (by simp)⟩
theorem Dat.old {w : World} {B0 : Nat} {A : Option Addr} {bs : List UInt8} (h : BS w B0 A bs.length bs) (hB : B0 ≤ w.heap.size) : Dat w B0 A bs :=
  ⟨h.more hB, fun hn a ha => .inl (by obtain ⟨b, off, e, hlt, _⟩ := h.2 hn; rw [ha] at e; injection e with e; subst e; exact hlt)⟩
theorem Dat.own {w : World} {base B0 n c : Nat} {A : Option Addr} {bs : List UInt8} (h : Own w base 5 A n c bs) : Dat w B0 A bs := by
  have hl := h.len
  subst hl
  refine ⟨h.bs, fun hn a ha => .inr ?_⟩
  rcases h.2 with ⟨hv, h0⟩ | ⟨g, cap, cur, hv, hg, hh, _⟩
  · omega
  · injection hv with hA
    rw [hA] at ha
    obtain rfl := Option.some.inj ha
    exact ⟨cur, _, _, hh, .inl rfl⟩
theorem Dat.kept {w w' : World} {B0 : Nat} {A : Option Addr} {bs : List UInt8} (h : Dat w B0 A bs) (hk : Kept B0 w w') : Dat w' B0 A bs := by
  refine ⟨⟨h.1.1, fun hn => ?_⟩, fun hn a ha => ?_⟩
  · obtain ⟨b, off, e, hlt, hc⟩ := h.1.2 hn
    exact ⟨b, off, e, Nat.lt_of_lt_of_le hlt hk.size, fun j hj => (World.cell?_of_block (hk.block b hlt (h.2 hn _ e))).trans (hc j hj)⟩
  · obtain ⟨b, off, e, hlt, hc⟩ := h.1.2 hn
    rw [ha] at e
    injection e with e
    subst e
    exact (h.2 hn _ ha).kept hlt hk
def rwCells (x : Ms.Rw) : List Value := [.string (strOf x.path), .int .i64 x.kind, .int .u64 (x.version : Int), .int .u64 (x.stamp : Int), .int .i64 x.size]
/-- rows behind a slice value -/
def RwS (w : World) (B0 : Nat) (A : Option Addr) (l : List Ms.Rw) : Prop :=
  0 < l.length → ∃ b off, A = some ⟨b, off, none⟩ ∧ b < w.heap.size ∧ Held w B0 b ∧ ∀ (j : Nat) v, (l.flatMap rwCells)[j]? = some v → w.cell? ⟨b, off + j, none⟩ = some v
theorem RwS.nil (w : World) (B0 : Nat) (A : Option Addr) : RwS w B0 A [] := fun h => absurd h (by simp)
theorem RwS.kept {w w' : World} {B0 : Nat} {A : Option Addr} {l : List Ms.Rw} (h : RwS w B0 A l) (hk : Kept B0 w w') : RwS w' B0 A l := fun hn => by
  obtain ⟨b, off, e, hlt, hh, hc⟩ := h hn
  exact ⟨b, off, e, Nat.lt_of_lt_of_le hlt hk.size, hh.kept hlt hk, fun j v hj => (World.cell?_of_block (hk.block b hlt hh)).trans (hc j v hj)⟩
def mCells (m : Ms.Msg) (A : Option Addr) (c : Nat) (A2 : Option Addr) (c2 : Nat) : Array Value :=
  #[.int .i64 m.kind, .int .u64 (m.session : Int), .int .u64 (m.n : Int), .int .i64 m.proto, .string (strOf m.path), .int .i64 m.what, .int .u64 (m.version : Int), .int .u64 (m.attempt : Int), .int .u64 (m.stamp : Int),
    .int .i64 m.offset, .int .i64 m.total, .int .i64 m.size, .int .i64 m.code, .bool m.flag, .slice A m.data.length c, .slice A2 m.rows.length c2]
theorem Held.more {w : World} {B0 B1 k : Nat} (h : Held w B0 k) (hb : B0 ≤ B1) : Held w B1 k := h.imp (fun h => Nat.lt_of_lt_of_le h hb) id
theorem Dat.more {w : World} {B0 B1 : Nat} {A : Option Addr} {bs : List UInt8} (h : Dat w B0 A bs) (hb : B0 ≤ B1) : Dat w B1 A bs := ⟨h.1, fun hn a ha => (h.2 hn a ha).more hb⟩
theorem RwS.more {w : World} {B0 B1 : Nat} {A : Option Addr} {l : List Ms.Rw} (h : RwS w B0 A l) (hb : B0 ≤ B1) : RwS w B1 A l := fun hn => by
  obtain ⟨b, off, e, hlt, hh, hc⟩ := h hn
  exact ⟨b, off, e, hlt, hh.more hb, hc⟩
/-- a message in memory, whose bytes and rows lie in blocks of their own types -/
def MsgW (w : World) (B0 gm : Nat) (m : Ms.Msg) : Prop :=
  ∃ A c A2 c2, Blk w gm 27 (mCells m A c A2 c2) ∧ Dat w 0 A m.data ∧ m.data.length ≤ c ∧ RwS w 0 A2 m.rows ∧ m.rows.length ≤ c2 ∧ B0 ≤ gm
/-- what a call leaves but for two blocks -/
structure Two (g gm : Nat) (w w' : World) : Prop where
  os : w'.os = w.os
  tape : w'.tape = w.tape
  output : w'.output = w.output
  size : w.heap.size ≤ w'.heap.size
  block : ∀ k, k < w.heap.size → k ≠ g → k ≠ gm → w'.heap[k]? = w.heap[k]?
theorem Two.refl (g gm : Nat) (w : World) : Two g gm w w := ⟨rfl, rfl, rfl, Nat.le_refl _, fun _ _ _ _ => rfl⟩
theorem Two.trans {g gm : Nat} {a b c : World} (h : Two g gm a b) (k : Two g gm b c) : Two g gm a c :=
  ⟨k.os.trans h.os, k.tape.trans h.tape, k.output.trans h.output, Nat.le_trans h.size k.size, fun i hi h1 h2 => (k.block i (Nat.lt_of_lt_of_le hi h.size) h1 h2).trans (h.block i hi h1 h2)⟩
theorem two_left {g gm : Nat} {w w' : World} (h : w.grownBy w' (some g)) : Two g gm w w' := ⟨h.os, h.tape, h.output, h.size, fun k hk h1 _ => h.block k hk fun e => h1 (by injection e)⟩
theorem two_right {g gm : Nat} {w w' : World} (h : w.grownBy w' (some gm)) : Two g gm w w' := ⟨h.os, h.tape, h.output, h.size, fun k hk _ h1 => h.block k hk fun e => h1 (by injection e)⟩
theorem two_below {g gm : Nat} {w w' : World} (h : Below w.heap.size w w') : Two g gm w w' := ⟨h.os, h.tape, h.output, h.size, fun k hk _ _ => h.block k hk⟩
theorem Two.below {g gm B : Nat} {w0 w w' : World} (hb : Below B w0 w) (h : Two g gm w w') (hB : B ≤ w.heap.size) (h1 : B ≤ g) (h2 : B ≤ gm) : Below B w0 w' :=
  ⟨h.os.trans hb.os, h.tape.trans hb.tape, h.output.trans hb.output, Nat.le_trans hb.size h.size, fun k hk => (h.block k (by omega) (by omega) (by omega)).trans (hb.block k hk)⟩

/-- append of whole elements of s cells to a row of the call's own -/
theorem run_appS {P : Program} {w : World} {t e : TypeId} {z : Value} {s by_ : Nat} (hs0 : 0 < s) (ht : P.underlying t = some (.slice e)) (hI : (P.info? e).map (fun i => (i.zero, i.size, i.bytes)) = some (some z, s, by_)) (hz1 : z.cells.size = s) (ty : TypeId) (base : Nat)
    (A : Option Addr) (n c : Nat) (vs : List Value) (hown : w.ownsRow base e s (.slice A n c) n vs)
    (ad : Addr) (m c' : Nat) (vs' : List Value) (hl : vs'.length = m * s) (hcell : ∀ j u, vs'[j]? = some u → w.cell? (ad.add j) = some u) (h1 : ∀ u ∈ vs', u.oneCell' = true) (hlen : (n + m) * by_ ≤ 140737488355328) (hmax : n + m ≤ maxLen) (hbase : base ≤ w.heap.size) :
    ∃ A2 c2 w2, (Builtin.append_ #[t, t] ty #[.slice A n c, .slice (some ad) m c']).run P w = .ok (.slice A2 (n + m) c2) w2 ∧ w2.ownsRow base e s (.slice A2 (n + m) c2) (n + m) (vs ++ vs') ∧
      w.grownBy w2 (Value.slice A n c).ownBlock ∧ ((Value.slice A2 (n + m) c2).ownBlock = (Value.slice A n c).ownBlock ∨ (Value.slice A2 (n + m) c2).ownBlock = some w.heap.size) := by
  obtain ⟨i, hi, hz, hs, hb⟩ := info_parts hI
  obtain ⟨v', w', hrun, h2, h3, _, h5⟩ := run_append_own_at (P := P) w base t ty e i z s by_ ht hi hz hs hb hz1 hs0 _ n _ hown ad m c' vs' hl
        hcell h1 hmax hlen hbase
  rcases h2.2 with ⟨rfl, h0⟩ | ⟨g, cap, cur, rfl, _⟩
  · exact ⟨none, 0, w', by rw [h0]; exact hrun, by rw [h0] at h2 ⊢; exact h2, h3, by rw [h0]; exact h5⟩
  · exact ⟨_, _, w', hrun, h2, h3, h5⟩
theorem wpList_appS {P : Program} {w : World} {t e : TypeId} {z : Value} {s by_ : Nat} (hs0 : 0 < s) (ht : P.underlying t = some (.slice e)) (hI : (P.info? e).map (fun i => (i.zero, i.size, i.bytes)) = some (some z, s, by_)) (hz1 : z.cells.size = s)
    {ops : Array Oper} {rest : List Oper} {o : Oper} {a : Act} {Q : Exit → Act → World → Prop} (hgd : o.guard = none) (x y : Operand)
    (ho : o.op = .call { callee := .builtin .append, args := #[x, y], argTypes := #[t, t] })
    (base : Nat) (A : Option Addr) (n c : Nat) (vs : List Value) (hs : a.eval x = .slice A n c) (hown : w.ownsRow base e s (.slice A n c) n vs)
    (ad : Addr) (m c' : Nat) (vs' : List Value) (hx : a.eval y = .slice (some ad) m c') (hl : vs'.length = m * s) (hcell : ∀ j u, vs'[j]? = some u → w.cell? (ad.add j) = some u) (h1 : ∀ u ∈ vs', u.oneCell' = true) (hlen : (n + m) * by_ ≤ 140737488355328) (hmax : n + m ≤ maxLen) (hbase : base ≤ w.heap.size)
    (h : ∀ A2 c2 w2, w2.ownsRow base e s (.slice A2 (n + m) c2) (n + m) (vs ++ vs') → w.grownBy w2 (Value.slice A n c).ownBlock → ((Value.slice A2 (n + m) c2).ownBlock = (Value.slice A n c).ownBlock ∨ (Value.slice A2 (n + m) c2).ownBlock = some w.heap.size) →
      wpList P ops Q rest (a.put o.dst (.slice A2 (n + m) c2)) w2) : wpList P ops Q (o :: rest) a w :=
  wpList_plain hgd fun _ hK => by
    obtain ⟨A2, c2, w2, hrun, h2, h3, h4⟩ := run_appS (w := w) hs0 ht hI hz1 o.type base A n c vs hown ad m c' vs' hl hcell h1 hlen hmax hbase
    unfold Oper.wp execOp
    simp only [ho, resolve, invoke, builtin, Sem.run_bind, Sem.run_pure, Result.andThen_ok, List.map_toArray, List.map_cons, List.map_nil, hs, hx, hrun]
    exact hK _ _ (h A2 c2 w2 h2 h3 h4)
theorem infoR : (Tryz.prog.info? 52).map (fun i => (i.zero, i.size, i.bytes)) = some (some (.agg #[.string ⟨#[]⟩, .int .i64 0, .int .u64 0, .int .u64 0, .int .i64 0]), 5, 48) := by kernel_rfl
theorem infoM : (Tryz.prog.info? 27).map (fun i => (i.zero, i.size)) = some (some (.agg (mCells Ms.zero none 0 none 0)), 16) := by kernel_rfl
/-- rows that the call made -/
def RwO (w : World) (base : Nat) (A : Option Addr) (n c : Nat) (l : List Ms.Rw) : Prop := w.ownsRow base 52 5 (.slice A n c) n (l.flatMap rwCells) ∧ l.length = n
theorem rwCells_len (l : List Ms.Rw) : (l.flatMap rwCells).length = l.length * 5 := by
  induction l with
  | nil => rfl
  | cons x l ih => rw [List.flatMap_cons, List.length_append, ih]; simp only [rwCells, List.length_cons, List.length_nil]; omega
theorem rwCells_one (l : List Ms.Rw) : ∀ u ∈ l.flatMap rwCells, u.oneCell' = true := by
  intro u hu
  obtain ⟨x, _, hx⟩ := List.mem_flatMap.1 hu
  simp only [rwCells, List.mem_cons, List.not_mem_nil, or_false] at hx
  rcases hx with rfl | rfl | rfl | rfl | rfl <;> rfl
theorem RwO.rs {w : World} {base B0 n c : Nat} {A : Option Addr} {l : List Ms.Rw} (h : RwO w base A n c l) : RwS w B0 A l := fun hn => by
  obtain ⟨h1, h2⟩ := h
  have hn' : 0 < n := by omega
  obtain ⟨g, cap, hv, _, hlt⟩ := World.ownsRow.form h1 hn'
  have hA : A = some ⟨g, 0, none⟩ := by injection hv
  subst hA
  refine ⟨g, 0, rfl, hlt, ?_, fun j v hj => ?_⟩
  · rcases h1.2 with ⟨hv, _⟩ | ⟨q, cap, cur, hv, _, hh, _⟩
    · cases hv
    · injection hv with hv
      obtain rfl : g = q := by injection hv with hv; injection hv
      exact .inr ⟨cur, _, _, hh, .inr rfl⟩
  · have := World.ownsRow.cells (g := g) h1 rfl j v hj
    rw [addr_add] at this
    exact this
end Go.Proofs.YthhhiiagppckhaaGreatDoor
end
