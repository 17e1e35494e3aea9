/- The walk of the reference of sha: products; conditions: none beyond its hypotheses. -/
import Derived.Test.YtmnanbcinfdbaaaDoorRt1
import Derived.Test.YtmnanbcinfdbaaaDoorSh6
namespace Go.Proofs.YtmnanbcinfdbaaaDoor
open Go.RowKit Go.Proofs.U
set_option linter.unusedVariables false

section
variable {P : Program} {w : World}
theorem wpList_makeN {ops : Array Oper} {rest : List Oper} {o : Oper} {a : Act} {Q : Exit → Act → World → Prop} (hg : o.guard = none) (l c : Operand) (hop : o.op = Op.makeSlice 102 l c)
    (n : Nat) (L : Int) (hl : a.eval l = .int .i64 L) (hc : a.eval c = .int .i64 L) (hL : L = (n : Int)) (b2 : n ≤ 1000000)
    (hK : ∀ w', OwnN w' w.heap.size (some ⟨w.heap.size, 0, none⟩) n n (List.replicate n 0) → Below w.heap.size w w' → wpList Tryd.prog ops Q rest (a.put o.dst (.slice (some ⟨w.heap.size, 0, none⟩) n n)) w') :
    wpList Tryd.prog ops Q (o :: rest) a w := by
  obtain ⟨i, hi, hz, hs, hby⟩ := info_parts infoI
  refine wpList_make_full w hg l c 102 hop w.heap.size 3 i (.int .i64 0) 1 Tryd.underlying102 hi hz hs .i64 .i64 L L n hl hc hL hL (by rw [hby]; omega) (by unfold maxLen; omega) (Nat.le_refl _) fun w' h1 h2 => ?_
  refine hK w' ?_ ⟨h2.os, h2.tape, h2.output, h2.size, fun k hk => h2.block k hk (by simp)⟩
  unfold OwnN
  have e : (madeCells (Value.int .i64 0).cells (n * 1)).toList = (List.replicate n 0).map iv := by
    rw [show (Value.int .i64 0).cells = #[.int .i64 0] from rfl, toList_madeCells_one, List.map_replicate, Nat.mul_one]; rfl
  rw [← e]; exact h1
end
theorem OwnN.set {w : World} {base n c g : Nat} {l : List Nat} (h : OwnN w base (some ⟨g, 0, none⟩) n c l) (j x : Nat) : OwnN (w.setCell ⟨g, j, none⟩ (.int .i64 (x : Int))) base (some ⟨g, 0, none⟩) n c (l.set j x) ∧ w.grownBy (w.setCell ⟨g, j, none⟩ (.int .i64 (x : Int))) (some g) := by
  have := World.ownsRow.stored h j (iv x)
  unfold OwnN; rw [List.map_set]; exact this
theorem OwnN.free {w : World} {base n c g : Nat} {l : List Nat} (h : OwnN w base (some ⟨g, 0, none⟩) n c l) (j : Nat) : w.frozen? ⟨g, j, none⟩ = false := World.ownsRow.frozenAt h j
theorem OwnN.at_ {w : World} {base n c g : Nat} {l : List Nat} (h : OwnN w base (some ⟨g, 0, none⟩) n c l) {j : Nat} (hj : j < n) : w.cell? ⟨g, j, none⟩ = some (.int .i64 (Rp.dg l j : Int)) := by
  have := nth_n h.vs (k := j) (x := Rp.dg l j) (Rp.at_dg (by rw [h.len]; exact hj))
  rwa [Nat.zero_add] at this
theorem OwnN.drewN {w : World} {base n c : Nat} {A : Option Addr} {l : List Nat} (h : OwnN w base A n c l) (q : Nat) : OwnN (w.drewN q) base A n c l := h
theorem only_drawn {a w : World} {g : Nat} (h : a.grownBy w (some g)) (q : Nat) : a.grownBy (w.drewN q) (some g) := only_drewN h q

set_option maxRecDepth 100000 in
set_option maxHeartbeats 8000000 in
theorem times_any (A B : Option Addr) (la lb ca cb : Nat) (a b : List Nat) (w : World) (ha : VS w w.heap.size A la (a.map iv)) (hb : VS w w.heap.size B lb (b.map iv)) (da : Rp.Dig a) (db : Rp.Dig b) (hla : 0 < la) (hlb : 0 < lb) (hla2 : la ≤ 1000) (hlb2 : lb ≤ 1000) :
    Calls Tryd.prog 125 #[.slice A la ca, .slice B lb cb] w (NumsRet w (fun l => Rp.Dig l ∧ Rp.val l = Rp.val a * Rp.val b) (la + lb)) := by
  have hal : a.length = la := by have := ha.1; simpa using this
  have hbl : b.length = lb := by have := hb.1; simpa using this
  have HL := Lib.hid (And.intro hal hbl)
  obtain ⟨bA, oA, rfl, hbA, -⟩ := ha.2 hla
  obtain ⟨bB, oB, rfl, hbB, -⟩ := hb.2 hlb
  have hq : la + lb ≤ 1000000 := by omega
  clear hal hbl
  go_enter Tryd.func125, Tryd.ntmps125
  go_wp2_with (refine wpList_makeN rfl _ _ rfl (la + lb) _ rfl rfl (by omega) hq ?_; intro w1 hown1 hb1)
  obtain ⟨T, hT⟩ : ∃ T, T = la + lb := ⟨_, rfl⟩
  rw [← hT] at hown1
  first
    | rw [← hT]
    | skip
  have HT := Lib.hid hT
  have hTq : T ≤ 1000000 := by omega
  have hTp : 0 < T := by omega
  have hz : Rp.Dig (List.replicate T 0) := dig_of fun x hx => by rw [List.eq_of_mem_replicate hx]; decide
  have hz0 : ∀ j, Rp.dg (List.replicate T 0) j = 0 := fun j => by
    unfold Rp.dg List.getD
    cases h : (List.replicate T 0)[j]? with
    | none => rfl
    | some x => simpa using (List.eq_of_mem_replicate (List.mem_of_getElem? h))
  have hv0 : Rp.val (List.replicate T 0) = 0 := by
    unfold Rp.val
    rw [Rp.vf_ext (g := fun _ => 0) _ (fun j _ => hz0 j)]
    have : ∀ n, Rp.vf (fun _ => 0) n = 0 := by
      intro n; induction n with
      | zero => rfl
      | succ n ih => rw [Rp.vf, ih]; simp
    exact this _
  have hTl : ∀ i j, i < la → j < lb → i + j < T := fun i j h1 h2 => by omega
  have HTL := Lib.hid hTl
  clear hT hTl
  go_loopg [6] la (fun r i wr => ∃ (k : Nat) (o : List Nat), r + k = la ∧ i = .int .i64 (k : Int) ∧ OwnN wr w.heap.size (some ⟨w.heap.size, 0, none⟩) T T o ∧ Rp.Dig o ∧ Rp.val o = Rp.vf (Rp.dg a) k * Rp.val b ∧ (∀ j, k + lb ≤ j → Rp.dg o j = 0) ∧ Below w.heap.size w wr)
  case atStart => exact ⟨0, _, rfl, rfl, hown1, hz, by rw [hv0]; simp [Rp.vf], fun j _ => hz0 j, hb1⟩
  case round =>
    clear hown1 hz hz0 hv0 hb1
    obtain ⟨i, o, hgk, rfl, hown, hdo, hval, hzero, hbw⟩ := hrel
    have HGK := Lib.hid hgk
    obtain ⟨wo, rfl⟩ : ∃ wo : World, wo = wr := ⟨_, rfl⟩
    by_cases hlt : i < la
    · obtain ⟨gq, rfl⟩ : ∃ gq, gq = gk := ⟨_, rfl⟩
      have HV := Lib.hid (And.intro hval hzero)
      clear hgk hval hzero
      go_wp2_with fail
      go_loopg [7, 8] lb (fun r cy k' wr => ∃ (k c : Nat) (o' : List Nat), r + k = lb ∧ k' = .int .i64 (k : Int) ∧ cy = .int .i64 (c : Int) ∧ c < 65536 ∧ OwnN wr w.heap.size (some ⟨w.heap.size, 0, none⟩) T T o' ∧ Rp.Dig o' ∧ Rp.val o' + c * 65536 ^ (i + k) = Rp.val o + Rp.dg a i * Rp.vf (Rp.dg b) k * 65536 ^ i ∧ (∀ j, i + k ≤ j → Rp.dg o' j = Rp.dg o j) ∧ Below w.heap.size w wr)
      case atStart => exact ⟨0, 0, o, rfl, rfl, rfl, by decide, hown, hdo, by simp [Rp.vf], fun _ _ => rfl, hbw⟩
      case round =>
        clear hown hbw
        obtain ⟨k, c, o', hgk, rfl, rfl, hc, hown, hdo', hval, hsame, hbw⟩ := hrel
        have HGK2 := Lib.hid hgk
        obtain ⟨wp, rfl⟩ : ∃ wp : World, wp = wr := ⟨_, rfl⟩
        have HV2 := Lib.hid (And.intro hval hsame)
        by_cases hlt2 : k < lb
        · clear hgk hval hsame
          have hik : i + k < T := HTL.out i k hlt hlt2
          have c1 := hown.at_ hik
          have c2 := nth_n (ha.below hbw) (k := i) (x := Rp.dg a i) (Rp.at_dg (by rw [HL.out.1]; exact hlt))
          have c3 := nth_n (hb.below hbw) (k := k) (x := Rp.dg b k) (Rp.at_dg (by rw [HL.out.2]; exact hlt2))
          have hx := hdo' (i + k)
          have hxa := da i
          have hxb := db k
          obtain ⟨x, hxe⟩ : ∃ x, x = Rp.dg o' (i + k) := ⟨_, rfl⟩
          obtain ⟨u, hue⟩ : ∃ u, u = Rp.dg a i := ⟨_, rfl⟩
          obtain ⟨v, hve⟩ : ∃ v, v = Rp.dg b k := ⟨_, rfl⟩
          rw [← hxe] at c1 hx
          rw [← hue] at c2 hxa
          rw [← hve] at c3 hxb
          have hbd := Rp.row_bound hx hxa hxb hc
          have hst := Rp.row_step (o := o') (b := b) (by rw [hown.len]; exact hik) HV2.out.1
          rw [← hxe, ← hue, ← hve] at hst
          obtain ⟨N, hN⟩ : ∃ N, N = x + u * v + c := ⟨_, rfl⟩
          have huv : (u : Int) * (v : Int) = ((u * v : Nat) : Int) := by push_cast; rfl
          obtain ⟨uv', huv'⟩ : ∃ uv', uv' = u * v := ⟨_, rfl⟩
          rw [← huv'] at huv hbd hN hst
          have hset := hown.set (i + k) (N % 65536)
          have hdo2 := hdo'.set (j := i + k) (x := N % 65536) (by rw [hown.len]; exact hik) (by omega)
          have hdg := fun j => Rp.dg_set (l := o') (j := i + k) (N % 65536) j (by rw [hown.len]; exact hik)
          have hfr := hown.free (i + k)
          rw [← hN] at hst
          have hbN : N < 4294967296 := by rw [hN]; exact hbd
          have hNi : (x : Int) + (uv' : Int) + (c : Int) = (N : Int) := by omega
          have H := Lib.hid (And.intro hst (And.intro hset (And.intro hdo2 hdg)))
          have HN := Lib.hid hN
          have HX2 := Lib.hid (And.intro hue hve)
          clear hxe hue hve hst hset hdo2 hdg hN huv' hxa hxb hx hbd
          have w1 : IntKind.i64.wrap ((i : Int) + (k : Int)) = (i : Int) + (k : Int) := IntWalk.i64_in _ (by omega)
          have w3 : IntKind.i64.wrap ((x : Int) + (uv' : Int)) = (x : Int) + (uv' : Int) := IntWalk.i64_in _ (by omega)
          have w4 : IntKind.i64.wrap ((uv' : Nat) : Int) = (uv' : Int) := IntWalk.i64_in _ (by omega)
          have w5 : IntKind.i64.wrap ((x : Int) + (uv' : Int) + (c : Int)) = (N : Int) := by rw [hNi]; exact IntWalk.i64_in _ (by omega)
          have i1 : ((i : Int) + (k : Int)).toNat = i + k := by omega
          have i2 : (0 : Int) ≤ (i : Int) + (k : Int) := by omega
          have i3 : (i : Int) + (k : Int) < (T : Int) := by omega
          go_wp2_with fail
          go_quiet (fail)
          obtain ⟨y, hy⟩ : ∃ y, y = N % 65536 := ⟨_, rfl⟩
          obtain ⟨cy, hcy⟩ : ∃ cy, cy = N / 65536 := ⟨_, rfl⟩
          have hNy : (N : Int) % 65536 = (y : Int) := by omega
          have hNc : (N : Int) / 65536 = (cy : Int) := by omega
          have HY := Lib.hid (And.intro hy hcy)
          have hyb : y < 65536 := by omega
          have hcyb : cy < 65536 := by omega
          clear hy hcy
          have hfr' : (wp.drewN nq).frozen? ⟨w.heap.size, i + k, none⟩ = false := hfr
          have c1' : (wp.drewN nq).cell? ⟨w.heap.size, i + k, none⟩ = some (.int .i64 (x : Int)) := c1
          go_wp2_with fail
          go_roundg (gk - 1)
          case measure => have := HGK2.out; omega
          case rel =>
            have e5 := HY.out.1
            have e6 := HY.out.2
            subst e5 e6
            refine ⟨k + 1, N / 65536, o'.set (i + k) (N % 65536), by have := HGK2.out; omega, by go_num, rfl, hcyb, ((hown.drewN nq).set _ _).1, H.out.2.2.1, by have := H.out.1; have := HN.out; rw [← HX2.out.1]; assumption, fun j hj => ?_, (below_drewN hbw nq).setCell (Nat.le_refl _) _⟩
            rw [H.out.2.2.2 j, if_neg (by omega)]
            exact HV2.out.2 j (by omega)
        · obtain rfl : k = lb := by have := HGK2.out; omega
          clear hgk hval hsame
          have hik : i + k < T := by have := HT.out; omega
          have hfr := hown.free (i + k)
          have c1 := hown.at_ hik
          have hz : Rp.dg o' (i + k) = 0 := by rw [HV2.out.2 _ (Nat.le_refl _)]; exact HV.out.2 _ (Nat.le_refl _)
          rw [hz] at c1
          have hset := hown.set (i + k) c
          have hvs := Rp.val_set (l := o') (j := i + k) (x := c) (by rw [hown.len]; exact hik)
          have hdo2 := hdo'.set (j := i + k) (x := c) (by rw [hown.len]; exact hik) hc
          have hdg := fun j => Rp.dg_set (l := o') (j := i + k) c j (by rw [hown.len]; exact hik)
          rw [hz] at hvs
          have H := Lib.hid (And.intro hvs (And.intro hset (And.intro hdo2 hdg)))
          clear hz hvs hset hdo2 hdg
          have w1 : IntKind.i64.wrap ((i : Int) + (k : Int)) = (i : Int) + (k : Int) := IntWalk.i64_in _ (by omega)
          have i1 : ((i : Int) + (k : Int)).toNat = i + k := by omega
          have i2 : (0 : Int) ≤ (i : Int) + (k : Int) := by omega
          have i3 : (i : Int) + (k : Int) < (T : Int) := by omega
          go_wp2_with fail
          go_roundg (gq - 1)
          case measure => have := HGK.out; omega
          case rel =>
            refine ⟨i + 1, o'.set (i + k) c, by have := HGK.out; omega, by go_num, H.out.2.1.1, H.out.2.2.1, ?_, fun j hj => ?_, hbw.setCell (Nat.le_refl _) _⟩
            · have h1 := HV2.out.1
              have h2 := HV.out.1
              have h3 := H.out.1
              have h4 : Rp.vf (Rp.dg b) k = Rp.val b := by unfold Rp.val; rw [HL.out.2]
              rw [h4] at h1
              rw [Rp.vf, Nat.add_mul, ← h2]
              have h5 : Rp.dg a i * Rp.val b * 65536 ^ i = Rp.dg a i * 65536 ^ i * Rp.val b := by rw [Nat.mul_right_comm]
              omega
            · rw [H.out.2.2.2 j, if_neg (by omega), HV2.out.2 j (by omega)]
              exact HV.out.2 j (by omega)
    · obtain rfl : i = la := by have := HGK.out; omega
      go_wp2_with fail
      go_ret
      have e7 := HT.out
      rw [← e7]
      refine ⟨_, T, o, rfl, hown, ⟨hdo, ?_⟩, hbw⟩
      · rw [hval]; congr 1; unfold Rp.val; rw [HL.out.1]
end Go.Proofs.YtmnanbcinfdbaaaDoor
