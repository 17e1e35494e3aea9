/- The walks of the reference of sha: digits, products, comparison; conditions: none beyond their hypotheses. -/
import Derived.Test.YtmnanbcinfdbaaaDoorRb2
import Derived.Test.YtmnanbcinfdbaaaDoorRp
namespace Go.Proofs.YtmnanbcinfdbaaaDoor
open Go.RowKit Go.Proofs.U
set_option linter.unusedVariables false

def iv (n : Nat) : Value := .int .i64 (n : Int)
theorem infoI : (Tryd.prog.info? 3).map (fun i => (i.zero, i.size, i.bytes)) = some (some (.int .i64 0), 1, 8) := by kernel_rfl
/-- a slice of numbers that the call made -/
def OwnN (w : World) (base : Nat) (A : Option Addr) (n c : Nat) (l : List Nat) : Prop := w.ownsRow base 3 1 (.slice A n c) n (l.map iv)
theorem OwnN.nil (w : World) (base : Nat) : OwnN w base none 0 0 [] := World.ownsRow_nil w base _ 1
theorem OwnN.below {w w' : World} {base n c : Nat} {A : Option Addr} {l : List Nat} (h : OwnN w base A n c l) (hb : Below w.heap.size w w') : OwnN w' base A n c l :=
  World.ownsRow.kept (row := none) h ⟨hb.os, hb.tape, hb.output, hb.size, fun k hk _ => hb.block k hk⟩ (by
    cases A with
    | none => exact .inl rfl
    | some a => exact .inr (by simp [Value.ownBlock]))
theorem OwnN.mono {w : World} {base base' n c : Nat} {A : Option Addr} {l : List Nat} (h : OwnN w base A n c l) (hb : base' ≤ base) : OwnN w base' A n c l := by
  refine ⟨h.1, ?_⟩
  rcases h.2 with h2 | ⟨g, cap, cur, hv, hg, r⟩
  · exact .inl h2
  · exact .inr ⟨g, cap, cur, hv, by omega, r⟩
theorem OwnN.vs {w : World} {base n c : Nat} {A : Option Addr} {l : List Nat} (h : OwnN w base A n c l) : VS w w.heap.size A n (l.map iv) := ownsRow_vs h
theorem OwnN.len {w : World} {base n c : Nat} {A : Option Addr} {l : List Nat} (h : OwnN w base A n c l) : l.length = n := by have := h.1; simpa using this
theorem OwnN.form {w : World} {base n c : Nat} {A : Option Addr} {l : List Nat} (h : OwnN w base A n c l) (hn : 0 < n) : ∃ g, A = some ⟨g, 0, none⟩ ∧ base ≤ g ∧ g < w.heap.size := by
  obtain ⟨g, cap, hv, hb, hlt⟩ := World.ownsRow.form h hn
  injection hv with hA
  exact ⟨g, hA, hb, hlt⟩
theorem OwnN.alloc {w : World} {base n c : Nat} {A : Option Addr} {l : List Nat} (h : OwnN w base A n c l) (o : Obj) : OwnN (w.alloc o) base A n c l := World.ownsRow.alloc h o
theorem nth_n {w : World} {B n g o k : Nat} {l : List Nat} (h : VS w B (some ⟨g, o, none⟩) n (l.map iv)) {x : Nat} (hx : l[k]? = some x) : w.cell? ⟨g, o + k, none⟩ = some (.int .i64 (x : Int)) :=
  VS.nth h (v := iv x) (k := k) (by rw [List.getElem?_map, hx]; rfl)
theorem oneN (l : List Nat) : ∀ u ∈ l.map iv, u.oneCell' = true := by
  intro u hu; obtain ⟨x, _, rfl⟩ := List.mem_map.1 hu; rfl
theorem VS.onen (w : World) (x : Nat) : VS (w.alloc (.cells #[.int .i64 (x : Int)] 3)) (w.heap.size + 1) (some ⟨w.heap.size, 0, none⟩) 1 ([x].map iv) := VS.one w _ _
def NumsRet (w : World) (p : List Nat → Prop) (n : Nat) (e : Ending) (w' : World) : Prop :=
  ∃ A c l, e = .returned (.slice A n c) ∧ OwnN w' w.heap.size A n c l ∧ p l ∧ Below w.heap.size w w'
def dgsN (n : Nat) : List Nat := [n % 65536, n / 65536 % 65536, n / 65536 / 65536 % 65536, n / 65536 / 65536 / 65536 % 65536]
theorem dgsN_val (n : Nat) (h : n < 18446744073709551616) : Rp.val (dgsN n) = n := by
  unfold dgsN
  rw [Rp.val_cons, Rp.val_cons, Rp.val_cons, Rp.val_cons]
  show _ + 65536 * (_ + 65536 * (_ + 65536 * (_ + 65536 * 0))) = n
  omega
theorem dig_of {l : List Nat} (h : ∀ x ∈ l, x < 65536) : Rp.Dig l := by
  intro j
  unfold Rp.dg List.getD
  cases hj : l[j]? with
  | none => simp
  | some x => simpa using h x (List.mem_of_getElem? hj)
theorem dgsN_dig (n : Nat) : Rp.Dig (dgsN n) := dig_of fun x hx => by
  simp only [dgsN, List.mem_cons, List.not_mem_nil, or_false] at hx
  rcases hx with rfl | rfl | rfl | rfl <;> omega
theorem dgsN_take (n k : Nat) (h : k < 4) : (dgsN n).take (k + 1) = (dgsN n).take k ++ [n / 65536 ^ k % 65536] := by
  match k, h with
  | 0, _ => simp [dgsN]
  | 1, _ => simp [dgsN]
  | 2, _ => simp [dgsN]; omega
  | 3, _ => simp [dgsN]; omega

set_option maxRecDepth 100000 in
set_option maxHeartbeats 2000000 in
theorem digits_any (n : Nat) (hn : n ≤ 9223372036854775807) (w : World) : Calls Tryd.prog 124 #[.int .i64 (n : Int)] w (NumsRet w (fun l => l = dgsN n) 4) := by
  obtain ⟨M, hM⟩ : ∃ M, M = n := ⟨_, rfl⟩
  go_enter Tryd.func124, Tryd.ntmps124
  go_wp2_with fail
  go_loopg [0, 3, 4] 4 (fun r x t i wr => ∃ (k m : Nat) (A : Option Addr) (c : Nat), r + k = 4 ∧ m = n / 65536 ^ k ∧ x = .int .i64 (m : Int) ∧ t = .slice A k c ∧ i = .int .i64 k ∧ OwnN wr w.heap.size A k c ((dgsN n).take k) ∧ Below w.heap.size w wr)
  case atStart => exact ⟨0, n, none, 0, rfl, by simp, rfl, rfl, rfl, OwnN.nil _ _, Below.refl _ _⟩
  case round =>
    obtain ⟨k, m, A, c, hgk, hm, rfl, rfl, rfl, hown, hbw⟩ := hrel
    have HGK := Lib.hid hgk
    obtain ⟨wo, rfl⟩ : ∃ wo : World, wo = wr := ⟨_, rfl⟩
    have hmn : m ≤ 9223372036854775807 := by rw [hm]; exact Nat.le_trans (Nat.div_le_self _ _) hn
    by_cases h4 : k < 4
    · have htk := dgsN_take n k h4
      rw [← hm] at htk
      have hm2 : m / 65536 = n / 65536 ^ (k + 1) := by rw [hm, Nat.div_div_eq_div_mul, Nat.pow_succ]
      have H := Lib.hid (And.intro htk hm2)
      clear hgk hm htk hm2
      obtain ⟨x, hx⟩ : ∃ x, x = m % 65536 := ⟨_, rfl⟩
      have hxi : (m : Int) % 65536 = (x : Int) := by omega
      have hal : Below wo.heap.size wo (wo.alloc (.cells #[.int .i64 (x : Int)] 3)) := (Below.refl _ _).alloc (Nat.le_refl _) _
      have hown1 := hown.alloc (.cells #[.int .i64 (x : Int)] 3)
      have hq : (k + 1) * 8 ≤ 140737488355328 := by omega
      have hq2 : k + 1 ≤ maxLen := by unfold maxLen; omega
      have hbz := Nat.le_trans hbw.size hal.size
      have HX := Lib.hid hx
      clear hx
      go_wp2_with (at_builtin; refine wpList_appv Tryd.underlying102 infoI rfl rfl (.tmp 9) (.tmp 12) rfl w.heap.size _ _ _ _ rfl hown1 _ _ 1 1 _ rfl (VS.onen wo x) (oneN _) hq hq2 hbz ?_; intro A2 c2 w2 hown2 hg2 _)
      go_roundg (gk - 1)
      case measure => have := HGK.out; omega
      case rel =>
        refine ⟨k + 1, m / 65536, A2, c2, by have := HGK.out; omega, H.out.2, by go_num, rfl, by go_num, ?_, below_row (hbw.trans (hal.mono hbw.size)) hbz hown1 (Nat.le_refl _) hg2⟩
        rw [H.out.1, ← HX.out]; unfold OwnN; rw [List.map_append]; exact hown2
    · obtain rfl : k = 4 := by omega
      go_wp2_with fail
      go_ret
      exact ⟨A, c, dgsN n, rfl, hown, rfl, hbw⟩
end Go.Proofs.YtmnanbcinfdbaaaDoor
