/- The walk of intake.fill; conditions: none beyond its hypotheses. -/
import Derived.Test.YthhhiiagppckhaaGreatDoorMgDin
import Derived.Test.YthhhiiagppckhaaGreatDoorMgU
import Derived.Laws.CopyOwn
set_option linter.unusedSimpArgs false
set_option linter.unusedVariables false
section
namespace Go.Proofs.YthhhiiagppckhaaGreatDoor
open Go.RowKit Go.Proofs.U
set_option linter.unusedVariables false

/-- a slice that does not lie in block g -/
def Off (g : Nat) (A : Option Addr) (n : Nat) : Prop := 0 < n → ∀ a, A = some a → a.block ≠ g
theorem ibs_only {w w' : World} {B n g : Nat} {A : Option Addr} {bs : List UInt8} (h : BS w B A n bs) (hb : w.grownBy w' (some g)) (hB : B ≤ w.heap.size) (ho : Off g A n) : BS w' B A n bs :=
  ⟨h.1, fun hn => by
    obtain ⟨b, off, e, hlt, hc⟩ := h.2 hn
    refine ⟨b, off, e, hlt, fun j hj => ?_⟩
    have hne := ho hn _ e
    exact (World.cell?_of_block (hb.block b (by omega) (fun e2 => hne (by injection e2)))).trans (hc j hj)⟩

theorem splice_have (P tl : List UInt8) (X : List Value) (e : Int) (p : Nat) (h : P.length + tl.length = 1410) (hp : p = P.length) (hX : p + X.length ≤ 1410) : (splice (inkL P tl e) p X)[1410]? = some (.int .i64 (P.length : Int)) := by
  subst hp
  unfold splice
  rw [List.getElem?_append_right (by simp [inkL_len P tl e h]; omega), List.getElem?_append_right (by simp [inkL_len P tl e h]; omega), List.getElem?_drop]
  have := inkL_have P tl e h
  rw [← this]; congr 1
  simp [inkL_len P tl e h]; omega
theorem inkL_fill (P tl X : List UInt8) (e : Int) (p m : Nat) (h : P.length + tl.length = 1410) (hp : p = P.length) (hX : X.length = m) (hm : p + m ≤ 1410) :
    (splice (inkL P tl e) p (X.map bv)).toArray.setIfInBounds 1410 (.int .i64 ((p : Int) + m)) = (inkL (P ++ X) (tl.drop m) e).toArray := by
  subst hp; subst hX
  have e1 : splice (inkL P tl e) P.length (X.map bv) = (P ++ X ++ tl.drop X.length).map bv ++ [.int .i64 (P.length : Int), .int .i64 e, .bool false, .nilIface] := by
    unfold splice inkL
    rw [List.take_append_of_le_length (by simp), List.drop_append_of_le_length (by simp; omega)]
    simp [List.take_append, List.drop_append, List.map_drop]
  rw [e1, List.setIfInBounds_toArray, List.set_append_right _ _ (by simp; omega)]
  unfold inkL
  have e2 : 1410 - ((P ++ X ++ tl.drop X.length).map bv).length = 0 := by simp; omega
  rw [e2]
  simp

theorem ibs_from {w : World} {B n : Nat} {A : Option Addr} {bs : List UInt8} (h : BS w B A n bs) (k : Nat) (hk : k ≤ n) : BS w B (A.map fun x => x.add k) (n - k) (bs.drop k) := by
  rcases Nat.eq_zero_or_pos n with h0 | h0
  · subst h0
    obtain rfl : bs = [] := List.eq_nil_of_length_eq_zero h.1
    rw [List.drop_nil, Nat.zero_sub]; exact BS.nil _ _ _
  · obtain ⟨b, off, rfl, _, _⟩ := h.2 h0
    show BS w B (some ((⟨b, off, none⟩ : Addr).add k)) _ _
    rw [addr_add]; exact h.drop hk
theorem off_from {g n : Nat} {A : Option Addr} (h : Off g A n) (k : Nat) : Off g (A.map fun x => x.add k) (n - k) := by
  intro h0 a e
  cases A with
  | none => simp at e
  | some a0 =>
    simp only [Option.map_some, Option.some.injEq] at e
    have hb : (a0.add k).block = a0.block := by unfold Addr.add; split <;> rfl
    rw [← e, hb]; exact h (by omega) a0 rfl

/-- copy into a row that is known whole: how the row turns; nothing else does -/
theorem wpList_copy_in {P : Program} {w : World} {ops : Array Oper} {rest : List Oper} {o : Oper} {a : Act} {Q : Exit → Act → World → Prop} (hgd : o.guard = none) (d s : Operand) (dT sT : TypeId)
    (ho : o.op = .call { callee := .builtin .copy, args := #[d, s], argTypes := #[dT, sT] }) (elem : TypeId) (hu : P.underlying dT = some (.slice elem)) (hsz : (P.info? elem).map (·.size) = some 1)
    (dp sp : Option Addr) (dLen dCap sLen sCap : Nat) (hd : a.eval d = .slice dp dLen dCap) (hs : a.eval s = .slice sp sLen sCap)
    (g off : Nat) (cur : List Value) (t : TypeId) (hg : w.heap[g]? = some (.cells cur.toArray t (0, 0))) (cs : List Value) (hn : cs.length = Nat.min sLen dLen)
    (hpos : 0 < cs.length → dp = some ⟨g, off, none⟩ ∧ ∃ ad, sp = some ad ∧ ∀ j v, cs[j]? = some v → w.cell? (ad.add j) = some v)
    (hfit : off + cs.length ≤ cur.length) (h1 : ∀ v ∈ cs, v.oneCell' = true)
    (h : ∀ w', Blk w' g t (splice cur off cs).toArray → w.grownBy w' (some g) → wpList P ops Q rest (a.put o.dst (goInt cs.length)) w') :
    wpList P ops Q (o :: rest) a w := by
  by_cases h0 : cs.length = 0
  · obtain rfl : cs = [] := List.eq_nil_of_length_eq_zero h0
    refine wpList_copy_nothing hgd d s dT sT ho elem hu hsz dp sp dLen dCap sLen sCap hd hs (by simpa using hn.symm) ?_
    exact h w (show _ = _ by simpa [splice] using hg) (World.grownBy.refl w _)
  · obtain ⟨rfl, ad, rfl, hsrc⟩ := hpos (by omega)
    refine wpList_copy_own hgd d s dT sT ho elem hu hsz g off dLen dCap ad sLen sCap hd hs cur.toArray t hg cs hn hsrc (by simpa using hfit) h1 ?_
    exact h _ (show _ = _ by simpa [splice] using setRow_heap w g _ _ t _ hg) ⟨rfl, rfl, rfl, by simp [World.setRow], fun k hk hne => setRow_other w g k _ (fun e => hne (by rw [e]))⟩

def FillRet (w : World) (B g : Nat) (P bs : List UInt8) (k : Nat) (en : Ending) (w' : World) : Prop :=
  ∃ A c, en = .returned (.slice A (bs.length - k) c) ∧ BS w' B A (bs.length - k) (bs.drop k) ∧ bs.length - k ≤ c ∧ Off g A (bs.length - k) ∧ Ink w' g (P ++ bs.take k) 0 ∧ w.grownBy w' (some g)

set_option maxHeartbeats 2000000 in
theorem fill_any (g : Nat) (P : List UInt8) (w : World) (hk : Ink w g P 0) (hP : Part P) (A : Option Addr) (n c : Nat) (bs : List UInt8) (B : Nat) (hb : BS w B A n bs) (hB : B ≤ w.heap.size) (ho : Off g A n) (hn : n ≤ 140737488355328) (hc : n ≤ c) (hT : Nib w) :
    Calls Tryz.prog 32 #[.pointer (some ⟨g, 0, none⟩), .slice A n c] w (FillRet w B g P bs (fneed P).1) := by
  obtain ⟨k, hk0, hk1, hk2, _⟩ := part_need P hP
  rw [hk0]
  simp only
  have HN := Lib.hid hk0
  clear hk0
  obtain ⟨p, hp⟩ : ∃ p, p = P.length := ⟨_, rfl⟩
  have c1 := hk.have_
  rw [← hp] at c1
  rw [← hp] at hk2
  have HP := Lib.hid hp
  clear hp
  have q1 : (p : Int) ≤ 1410 := by omega
  have q1' : p ≤ 1410 := by omega
  have q2 : ¬ (p = 1410) := by omega
  have q2' : ¬ (1410 = p) := by omega
  have q3 : (0 : Int) ≤ (p : Int) := by omega
  go_enter Tryz.func32, Tryz.ntmps32
  go_wp2_with fail
  have HC : ∀ w', Below w.heap.size w w' → w'.cell? ⟨g, 1410, none⟩ = some (.int .i64 (p : Int)) := fun w' hw' => by rw [HP.out]; exact (hk.below hw').have_
  have HHC := Lib.hid HC
  clear HC c1
  refine wp_region_class (C := fun w' => Below w.heap.size w w') (by kernel_rfl) (by kernel_rfl) ((Below.refl _ _).drew) ?_
  repeat
    (refine wpQuiet_step (fun K hK => ?_)
     rw [if_pos (by rfl)]
     apply Exists.intro
     refine ⟨fun w' hw' => ?_, hK _ ?_⟩
     · have e0 := HHC.out w' hw'
       go_simp
       first
         | done
         | rfl
         | (refine (need_any (some ⟨g, 0, none⟩) p 1410 P w' (by rw [HP.out]; exact (hk.below hw').bs) (by omega) (by omega) (hT.stay hw')).mono ?_
            rw [HN.out]
            rintro e w1 ⟨rfl, hb1⟩
            exact ⟨rfl, hw'.trans (hb1.mono hw'.size)⟩)
     clear hK K
     go_simp)
  refine wpQuiet_nil ?_
  intro w1 hw1
  go_wp2_with fail
  have hk1' := hk.below hw1
  have c1 := hk1'.have_
  rw [← HP.out] at c1
  obtain ⟨m, hm⟩ : ∃ m, m = min k n := ⟨_, rfl⟩
  have hmk : (if n < k then (n : Int) else (k : Int)) = (m : Int) := by split <;> omega
  have Hm := Lib.hid hm
  have i0 : p + m ≤ 1410 := by omega
  clear hm
  have i1 : IntKind.i64.wrap ((p : Int) + m) = (p : Int) + m := IntWalk.i64_in _ (by omega)
  have i2 : (p : Int) ≤ (p : Int) + m := by omega
  have i3 : (p : Int) + m ≤ 1410 := by omega
  have i4 : ((p : Int) + m).toNat = p + m := by omega
  have i5 : p + m - p = m := by omega
  have HC : ∀ w', Below w1.heap.size w1 w' → w'.cell? ⟨g, 1410, none⟩ = some (.int .i64 (p : Int)) := fun w' hw' => by rw [HP.out]; exact (hk1'.below hw').have_
  have HHC := Lib.hid HC
  clear HC c1
  refine wp_region_class_tail (C := fun w' => Below w1.heap.size w1 w') 18 (by kernel_rfl) (by kernel_rfl) ((Below.refl _ _).drew) ?_
  simp only [List.take_succ_cons, List.take_zero, List.drop_succ_cons, List.drop_zero]
  repeat
    (refine wpQuiet_step (fun K hK => ?_)
     rw [if_pos (by rfl)]
     apply Exists.intro
     refine ⟨fun w' hw' => ?_, hK _ ?_⟩
     · have e0 := HHC.out w' hw'
       go_simp
       first
         | done
         | rfl
     clear hK K
     go_simp)
  refine wpQuiet_nil ?_
  intro w2 hw2
  have hw12 := hw1.trans (hw2.mono hw1.size)
  have hb2 := hb.below (hw12.mono hB)
  obtain ⟨tl, htl, hblk⟩ := hk.below hw12
  have hml : ((bs.take m).map bv).length = m := by have := hb.1; have := Hm.out; simp; omega
  refine wpList_copy_in rfl (.tmp 36) (.tmp 37) 24 24 rfl 5 Tryz.underlying24 (by kernel_rfl) _ _ _ _ _ _ rfl rfl g p (inkL P tl 0) _ hblk ((bs.take m).map bv) ?_ ?_ ?_ ?_ ?_
  · rw [hml]; have := Hm.out; show m = min n m; omega
  · intro h0
    rw [hml] at h0
    refine ⟨rfl, ?_⟩
    obtain ⟨b, off, rfl, _, hc⟩ := hb2.2 (by have := Hm.out; omega)
    refine ⟨_, rfl, fun j v hj => ?_⟩
    rw [addr_add]
    have hjm : j < m := by have := (List.getElem?_eq_some_iff.1 hj).1; rw [hml] at this; exact this
    have hjb : j < bs.length := by have := hb.1; have := Hm.out; omega
    rw [hc j hjb, ← hj]
    simp [hjm, hjb, bv]
  · rw [hml, inkL_len P tl 0 htl]; omega
  · intro v hv
    obtain ⟨x, _, rfl⟩ := List.mem_map.1 hv
    rfl
  intro w3 hblk3 hg3
  rw [hml]
  have d1 : w3.cell? ⟨g, 1410, none⟩ = some (.int .i64 (p : Int)) := by
    rw [hblk3.cell]; simpa [HP.out] using splice_have P tl ((bs.take m).map bv) 0 p htl HP.out (by rw [hml]; have := HP.out; omega)
  have f1 := hblk3.frozen 1410
  have j1 : (m : Int) ≤ (n : Int) := by have := Hm.out; omega
  have j2 : m ≤ n := by omega
  have j3 : (m : Int) ≤ (c : Int) := by omega
  have j4 : m ≤ c := by omega
  have t1 : bs.take m = bs.take k := by
    have := hb.1; have := Hm.out
    rcases Nat.le_total k n with h | h
    · rw [show m = k by omega]
    · rw [List.take_of_length_le (by omega), List.take_of_length_le (by omega)]
  have t2 : bs.drop m = bs.drop k := by
    have := hb.1; have := Hm.out
    rcases Nat.le_total k n with h | h
    · rw [show m = k by omega]
    · rw [List.drop_of_length_le (by omega), List.drop_of_length_le (by omega)]
  have t3 : bs.length - k = n - m := by have := hb.1; have := Hm.out; omega
  have T := Lib.hid (And.intro t1 (And.intro t2 t3))
  clear t1 t2 t3
  go_wp2_with fail
  all_goals
    go_ret
    obtain ⟨t1, t2, t3⟩ := T.out
    have hgr := only_at (g := g) (i := 1410) (u := .int .i64 ((p : Int) + m)) (only_trans ((World.grownBy.refl w (some g)) |> fun h => only_below h hw12) hg3)
    have hb4 := ibs_only hb hgr hB ho
    unfold FillRet
    rw [t3, ← t2]
    refine ⟨_, _, rfl, ?_, (by omega), ?_, ?_, hgr⟩
    · first
        | exact ibs_from hb4 m j2
        | (obtain h0 : n - m = 0 := by omega
           rw [h0, List.drop_of_length_le (by have := hb.1; omega)]; exact BS.nil _ _ _)
    · first
        | exact off_from ho m
        | (intro h0; exfalso; omega)
    · refine ⟨tl.drop m, by have := HP.out; have := hb.1; simp; omega, ?_⟩
      rw [← t1, ← inkL_fill P tl (bs.take m) 0 p m htl HP.out (by simpa using hml) i0]
      exact hblk3.set_ 1410 _
end Go.Proofs.YthhhiiagppckhaaGreatDoor
end
