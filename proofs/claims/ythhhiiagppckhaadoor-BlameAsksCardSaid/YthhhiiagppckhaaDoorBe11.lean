/- Errors: their texts; conditions: none beyond their hypotheses. -/
import Derived.Test.YthhhiiagppckhaaDoorBe10
import Derived.Test.YthhhiiagppckhaaDoorShelf
import Derived.Lib.ItoaMem
import Derived.Lib.ItoaLen
import Derived.Lib.AppendIntMem
namespace Go.Proofs.YthhhiiagppckhaaDoor
open Go.RowKit Go.Proofs.U Go.Proofs.Bp
set_option linter.unusedVariables false

/-- a number whose text is told -/
def NumOk (w : World) (c : Int) : Prop := (0 ≤ c ∧ c < 100) ∨ (-9223372036854775808 ≤ c ∧ c ≤ 9223372036854775807 ∧ Lib.TabIs Tryd.prog w "internal/strconv.uint64pow10" .u64 Lib.pow10Tab)
theorem NumOk.below {w w' : World} {c : Int} (h : NumOk w c) (hb : Below w.heap.size w w') : NumOk w' c := by
  rcases h with h | ⟨h1, h2, h3⟩
  · exact .inl h
  · exact .inr ⟨h1, h2, Lib.tabBelow_of_tabIs h3 w' hb⟩
theorem below_grow (w : World) (k : Nat) (os : Array Obj) : Below w.heap.size w (Go.Sort.grow (w.drewN k) os) := by
  refine ⟨rfl, rfl, rfl, by simp [Go.Sort.grow, World.drewN], fun j hj => ?_⟩
  show (w.heap ++ os)[j]? = w.heap[j]?
  rw [Array.getElem?_append_left hj]
def errText (c : Int) : List UInt8 := [101, 114, 114, 110, 111, 32] ++ Lib.itoa c
theorem itoa_len {w : World} {c : Int} (h : NumOk w c) : (Lib.itoa c).length ≤ 21 := by
  rcases h with ⟨h1, h2⟩ | ⟨h1, h2, _⟩
  · exact Lib.itoa_length_le c (by omega) (by omega)
  · exact Lib.itoa_length_le c h1 h2
def TextRet (w : World) (s : List UInt8) (e : Ending) (w' : World) : Prop := e = .returned (.string (strOf s)) ∧ Below w.heap.size w w'
theorem itoa_any (c : Int) (w : World) (h : NumOk w c) : Calls Tryd.prog 98 #[.int .i64 c] w (TextRet w (Lib.itoa c)) := by
  rcases h with ⟨h1, h2⟩ | ⟨h1, h2, h3⟩
  · obtain ⟨i, rfl⟩ : ∃ i : Nat, c = (i : Int) := ⟨c.toNat, by omega⟩
    refine (Tryd.strconv_Itoa_small i (by omega) w).mono fun e w' ⟨he, hw⟩ => ⟨?_, by rw [hw]; exact Below.refl _ _⟩
    rw [he, Lib.itoa_nonneg]; rfl
  · exact (Tryd.strconv_Itoa c h1 h2 w h3).mono fun e w' ⟨he, k, os, hw⟩ => ⟨he, by rw [hw]; exact below_grow _ _ _⟩
set_option maxRecDepth 100000 in
set_option maxHeartbeats 4000000 in
theorem errno_any (c : Int) (w : World) (h : NumOk w c) : Calls Tryd.prog 73 #[.int .i64 c] w (TextRet w (errText c)) := by
  have hl := itoa_len h
  have hi := itoa_any c w h
  obtain ⟨s, hs⟩ : ∃ s, s = strOf (Lib.itoa c) := ⟨_, rfl⟩
  obtain ⟨s2, hs2⟩ : ∃ s2, s2 = strOf (errText c) := ⟨_, rfl⟩
  unfold TextRet at hi ⊢
  rw [← hs] at hi
  rw [← hs2]
  have x1 : ∀ w', (Op.stringOp .add ⟨#[101, 114, 114, 110, 111, 32]⟩ s).run Tryd.prog w' = .ok (.string s2) w' := fun w' => by
    rw [hs, hs2, run_string_add_sum w' _ _ (by rw [strOf_sz]; show 6 + _ ≤ _; omega)]
    exact congrArg (fun z => Result.ok (Value.string z) w') (strOf_app [101, 114, 114, 110, 111, 32] _)
  clear hs hs2 h hl
  go_enter Tryd.func73, Tryd.ntmps73
  go_wp2_with fail
  refine hi.mono ?_
  rintro e w1 ⟨rfl, hb1⟩
  go_wp2_with fail
  go_ret
  exact ⟨rfl, hb1⟩
theorem joinTail_le (sep : List UInt8) (B : Nat) : ∀ (r : List (List UInt8)), (∀ s ∈ r, s.length ≤ B) → (Lib.joinTail sep r).length ≤ r.length * (B + sep.length)
  | [], _ => by simp [Lib.joinTail]
  | x :: r, h => by
    have ih := joinTail_le sep B r fun s hs => h s (List.mem_cons_of_mem _ hs)
    have hx := h x List.mem_cons_self
    unfold Lib.joinTail at ih ⊢
    simp only [List.map_cons, List.flatten_cons, List.length_append, List.length_cons]
    rw [Nat.add_mul]
    omega
theorem join_le (sep : List UInt8) (B : Nat) (l : List (List UInt8)) (h : ∀ s ∈ l, s.length ≤ B) : (Lib.join l sep).length ≤ l.length * (B + sep.length) := by
  cases l with
  | nil => simp [Lib.join_nil]
  | cons x r =>
    rw [Lib.join_cons, List.length_append, List.length_cons, Nat.add_mul]
    have := joinTail_le sep B r fun s hs => h s (List.mem_cons_of_mem _ hs)
    have := h x List.mem_cons_self
    omega
theorem steps_each : ∀ {t : Er}, Lt t → ∀ s ∈ t.steps, s.length ≤ 101
  | .nil, _, s, hs => by cases hs
  | .code c, _, s, hs => by cases hs
  | .one o p e, h, s, hs => by
    simp only [Er.steps, List.mem_cons] at hs
    rcases hs with rfl | hs
    · have := h.1; simp; omega
    · exact steps_each h.2 s hs
  | .two a b, h, s, hs => by
    simp only [Er.steps, List.mem_append] at hs
    rcases hs with hs | hs
    · exact steps_each h.1 s hs
    · exact steps_each h.2 s hs
/-- an error's text -/
def textOf (t : Er) : List UInt8 := Lib.join (t.steps ++ [errText (first0 t.codes)]) [58, 32]

set_option maxRecDepth 100000 in
set_option maxHeartbeats 4000000 in
theorem error_any (t : Er) (g : Nat) (w : World) (hs : siz t ≤ 1000000) (hok : t.ok) (hl : Lt t) (h : ErV w t (.iface 60 (.pointer (some ⟨g, 0, none⟩)))) (hg : ErrT w) (hn : NumOk w (first0 t.codes)) :
    Calls Tryd.prog 33 #[.pointer (some ⟨g, 0, none⟩)] w (TextRet w (textOf t)) := by
  have hst := steps_any t _ w hs (.inr hok) hl h hg
  have hsl := steps_len t
  have hse := steps_each hl
  have hcd : ∀ w1, Below w.heap.size w w1 → Calls Tryd.prog 28 #[.iface 60 (.pointer (some ⟨g, 0, none⟩))] w1 (CodeRet w1 (first0 t.codes)) := fun w1 hb1 => code_any t _ w1 hs (.inr hok) (h.below hb1) (hg.below hb1)
  have hc0 := ok_first0 hok
  unfold textOf
  obtain ⟨c, hc⟩ : ∃ c, c = first0 t.codes := ⟨_, rfl⟩
  obtain ⟨l, hll⟩ : ∃ l, l = t.steps := ⟨_, rfl⟩
  rw [← hc] at hc0 hn hcd
  rw [← hll] at hst hse hsl
  rw [← hc, ← hll]
  have hel : (errText c).length ≤ 101 := by have := itoa_len hn; unfold errText; rw [List.length_append]; show 6 + _ ≤ _; omega
  have hc1 : (c != 0) = true := by simpa using hc0
  have hll2 : l.length ≤ 1000000 := by omega
  have HH := Lib.hid (And.intro hse hel)
  have HCD := Lib.hid hcd
  have HN := Lib.hid hn
  clear hc hll hc0 hse hel hcd hn hsl hl hok
  go_enter Tryd.func33, Tryd.ntmps33
  go_wp2_with fail
  refine hst.mono ?_
  rintro e w1 ⟨A, n, c1, hnl, rfl, hown1, hb1⟩
  have HNL := Lib.hid hnl
  have hn2 : n ≤ 1000000 := by omega
  clear hnl
  go_wp2_with fail
  refine (HCD.out w1 hb1).mono ?_
  rintro e w2 ⟨rfl, hb2⟩
  have hbw2 := hb1.trans (hb2.mono hb1.size)
  have hown2 := hown1.below hb2
  go_wp2_with fail
  refine (errno_any c w2 (HN.out.below hbw2)).mono ?_
  rintro e w3 ⟨rfl, hb3⟩
  have hbw3 := hbw2.trans (hb3.mono hbw2.size)
  obtain ⟨s4, hs4⟩ : ∃ s4, s4 = strOf (errText c) := ⟨_, rfl⟩
  rw [← hs4]
  have HS4 := Lib.hid hs4
  clear hs4
  have hb4 := boxed w3 (.cells #[.string s4] 9)
  have hown4 := (hown2.below hb3).below hb4
  have hvo : VS (w3.alloc (.cells #[.string s4] 9)) (w3.heap.size + 1) (some ⟨w3.heap.size, 0, none⟩) 1 [.string s4] := VS.one w3 (.string s4) 9
  have ho4 : ∀ u ∈ [Value.string s4], u.oneCell' = true := by simp [Value.oneCell']
  have hq : (n + 1) * 16 ≤ 140737488355328 := by omega
  have hq2 : n + 1 ≤ maxLen := by unfold maxLen; omega
  have hbw4 := hbw3.trans (hb4.mono hbw3.size)
  go_wp2_with (at_builtin; refine wpList_appv Tryd.underlying51 infoStr rfl rfl (.tmp 15) (.tmp 18) rfl w.heap.size _ _ _ _ rfl hown4 _ _ 1 1 _ rfl hvo ho4 hq hq2 hbw4.size ?_; intro A5 c5 w5 hown5 hg5 hob5)
  have hbw5 := below_row hbw4 hbw4.size hown4 (Nat.le_refl _) hg5
  have hown6 : OwnS w5 w.heap.size A5 (n + 1) c5 (l ++ [errText c]) := by
    unfold OwnS; rw [List.map_append, List.map_cons, List.map_nil, show sv (errText c) = .string s4 by rw [HS4.out]; rfl]; exact hown5
  obtain ⟨g5, rfl, hcell5⟩ := hown6.at_ (k := l.length) (x := errText c) (by simp)
  have hj := Tryd.strings_Join g5 0 c5 ((l ++ [errText c]).map strOf) ⟨#[58, 32]⟩ w5 (fun j x hx => by
      rw [List.getElem?_map] at hx
      cases hy : (l ++ [errText c])[j]? with
      | none => rw [hy] at hx; cases hx
      | some y =>
        rw [hy] at hx
        simp only [Option.map_some, Option.some.injEq] at hx
        subst hx
        obtain ⟨g6, e, hc6⟩ := hown6.at_ hy
        injection e with e; injection e with e
        subst e
        rw [Nat.zero_add]; exact hc6)
    (World.block_lt_of_cell? w5 _ hcell5) (by simp; omega) (by
      have := hown6.len
      rw [List.length_map]
      rcases hown5.2 with ⟨hv, _⟩ | ⟨_, cap, _, hv, _, _, hle, _⟩
      · cases hv
      · injection hv with _ _ hcap
        rw [this]; simpa [hcap] using hle)
    (by
      have e : ((l ++ [errText c]).map strOf).map (fun x => x.data.toList) = l ++ [errText c] := by rw [List.map_map]; exact List.map_id' _
      rw [e]
      have := join_le [58, 32] 101 (l ++ [errText c]) (fun s hs => by
        rcases List.mem_append.1 hs with h | h
        · exact HH.out.1 s h
        · rw [List.mem_singleton.1 h]; exact HH.out.2)
      rw [List.length_append] at this
      simp only [List.length_singleton, List.length_cons, List.length_nil] at this
      refine Nat.le_trans this ?_
      have : (l.length + (0 + 1)) * (101 + (0 + 1 + 1)) ≤ 1000001 * 103 := Nat.mul_le_mul (by omega) (by omega)
      omega)
  have e : ((l ++ [errText c]).map strOf).map (fun x => x.data.toList) = l ++ [errText c] := by rw [List.map_map]; exact List.map_id' _
  rw [e, List.length_map, hown6.len] at hj
  clear e
  have HJ := Lib.hid hj
  clear hj hown5 hown4 hvo ho4
  go_wp2_with fail
  refine HJ.out.mono ?_
  rintro e w6 ⟨rfl, hb6⟩
  go_wp2_with fail
  go_ret
  exact ⟨rfl, hbw5.trans (hb6.mono hbw5.size)⟩
end Go.Proofs.YthhhiiagppckhaaDoor
