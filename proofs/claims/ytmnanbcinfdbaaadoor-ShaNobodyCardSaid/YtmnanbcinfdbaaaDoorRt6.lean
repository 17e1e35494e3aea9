/- The walks of the reference of sha: the roots, and whether the constants are right; conditions: none beyond their hypotheses. -/
import Derived.Test.YtmnanbcinfdbaaaDoorRt5
import Derived.Test.YtmnanbcinfdbaaaDoorRb3
import Derived.Test.YtmnanbcinfdbaaaDoorSh9
namespace Go.Proofs.YtmnanbcinfdbaaaDoor
open Go.RowKit Go.Proofs.U
set_option linter.unusedVariables false

theorem root_h (i : Nat) (h : i < 8) : ∃ p x, Rp.pr[i]? = some p ∧ p ≤ 311 ∧ Sh.H0.l[i]? = some x ∧ ∀ r, Rp.isRoot r (p * 65536 ^ (2 * 2)) 2 → r % 4294967296 = x.toNat := by
  have h1 : ∀ i : Fin 8, ∃ p x, Rp.pr[i.1]? = some p ∧ Rp.pr.getD i.1 0 = p ∧ p ≤ 311 ∧ Sh.H0.l[i.1]? = some x ∧ Rp.hl.getD i.1 0 = x.toNat := fun i =>
    ⟨Rp.pr.getD i.1 0, Sh.H0.l.getD i.1 0#32, by revert i; decide +kernel, rfl, by revert i; decide +kernel, by revert i; decide +kernel, by revert i; decide +kernel⟩
  obtain ⟨p, x, a, b, c, d, e⟩ := h1 ⟨i, h⟩
  obtain ⟨f, g⟩ := Rp.r2_root i h
  refine ⟨p, x, a, c, d, fun r hr => ?_⟩
  simp only at b e
  rw [b] at f
  rw [Rp.root_uniq hr f, g, e]
theorem root_k (i : Nat) (h : i < 64) : ∃ p x, Rp.pr[i]? = some p ∧ p ≤ 311 ∧ kls[i]? = some x ∧ ∀ r, Rp.isRoot r (p * 65536 ^ (2 * 3)) 3 → r % 4294967296 = x.toNat := by
  have h1 : ∀ i : Fin 64, ∃ p x, Rp.pr[i.1]? = some p ∧ Rp.pr.getD i.1 0 = p ∧ p ≤ 311 ∧ kls[i.1]? = some x ∧ Rp.kl.getD i.1 0 = x.toNat := fun i =>
    ⟨Rp.pr.getD i.1 0, kls.getD i.1 0#32, by revert i; decide +kernel, rfl, by revert i; decide +kernel, by revert i; decide +kernel, by revert i; decide +kernel⟩
  obtain ⟨p, x, a, b, c, d, e⟩ := h1 ⟨i, h⟩
  obtain ⟨f, g⟩ := Rp.r3_root i h
  refine ⟨p, x, a, c, d, fun r hr => ?_⟩
  simp only at b e
  rw [b] at f
  rw [Rp.root_uniq hr f, g, e]
def RootIs (w : World) (x : BitVec 32) (e : Ending) (w' : World) : Prop := e = .returned (.int .u32 (x.toNat : Int)) ∧ Below w.heap.size w w'
theorem root_is {p k : Nat} {x : BitVec 32} (hp : p ≤ 311) (hk : k = 2 ∨ k = 3) (hx : ∀ r, Rp.isRoot r (p * 65536 ^ (2 * k)) k → r % 4294967296 = x.toNat) (w : World) : Calls Tryd.prog 103 #[.int .i64 (p : Int), .int .i64 (k : Int)] w (RootIs w x) :=
  (root_any p k hp hk w).mono fun e w' ⟨r, hr, he, hb⟩ => ⟨by rw [he, hx r hr], hb⟩
def RootsRet (w : World) (e : Ending) (w' : World) : Prop :=
  ∃ A c A' c', e = .returned (.tuple #[.slice A 8 c, .slice A' 64 c']) ∧ VS w' w'.heap.size A 8 (Sh.H0.l.map uv) ∧ VS w' w'.heap.size A' 64 (((List.range 64).map Sh.K).map uv) ∧ Below w.heap.size w w'

theorem form0 {w : World} {base n c : Nat} {A : Option Addr} {l : List Nat} (h : OwnN w base A n c l) (hn : 0 < n) : ∃ g, A = some ⟨g, 0, none⟩ := by
  obtain ⟨g, e, _⟩ := h.form hn; exact ⟨g, e⟩
set_option maxRecDepth 100000 in
set_option maxHeartbeats 8000000 in
theorem roots_any (w : World) : Calls Tryd.prog 69 #[] w (RootsRet w) := by
  go_enter Tryd.func69, Tryd.ntmps69
  go_wp2_with fail
  refine (primes_any w).mono ?_
  rintro e w1 ⟨A1, c1, l1, rfl, hown1, hl1, hb1⟩
  have HL1 := Lib.hid hl1
  clear hl1
  obtain ⟨g1, rfl⟩ := form0 hown1 (by decide)
  go_wp2_with fail
  go_loopg [2, 5] 8 (fun r t i wr => ∃ (j : Nat) (A : Option Addr) (c : Nat), r + j = 8 ∧ i = .int .i64 (j : Int) ∧ t = .slice A j c ∧ OwnU wr w1.heap.size A j c (Sh.H0.l.take j) ∧ Below w1.heap.size w1 wr)
  case atStart => exact ⟨0, none, 0, rfl, rfl, rfl, OwnU.nil _ _, Below.refl _ _⟩
  case round =>
    obtain ⟨j, A, c, hgk, rfl, rfl, hown, hbw⟩ := hrel
    have HGK := Lib.hid hgk
    obtain ⟨wo, rfl⟩ : ∃ wo : World, wo = wr := ⟨_, rfl⟩
    by_cases h8 : j < 8
    · clear hgk
      obtain ⟨p, x, hp, hp3, hx, hr⟩ := root_h j h8
      rw [← HL1.out] at hp
      have k1 := nth_n (hown1.below hbw).vs hp
      rw [Nat.zero_add] at k1
      have htk : Sh.H0.l.take (j + 1) = Sh.H0.l.take j ++ [x] := by rw [List.take_add_one, hx]; rfl
      have H := Lib.hid (And.intro hr htk)
      clear hp hx hr htk
      go_wp2_with fail
      refine (root_is hp3 (.inl rfl) H.out.1 wo).mono ?_
      rintro e w2 ⟨rfl, hb2⟩
      have hal : Below w2.heap.size w2 (w2.alloc (.cells #[.int .u32 (x.toNat : Int)] 34)) := (Below.refl _ _).alloc (Nat.le_refl _) _
      have hown2 := (hown.below hb2).below hal
      have hq : (j + 1) * 4 ≤ 140737488355328 := by omega
      have hq2 : j + 1 ≤ maxLen := by unfold maxLen; omega
      have hbz1 : w1.heap.size ≤ (w2.alloc (.cells #[.int .u32 (x.toNat : Int)] 34)).heap.size := Nat.le_trans (Nat.le_trans hbw.size hb2.size) hal.size
      go_wp2_with (at_builtin; refine wpList_appv Tryd.underlying88 info32 rfl rfl (.tmp 12) (.tmp 18) rfl w1.heap.size _ _ _ _ rfl hown2 _ _ 1 1 _ rfl (VS.oneu w2 x) (oneU _) hq hq2 hbz1 ?_; intro A3 c3 w3 hown3 hg3 _)
      go_roundg (gk - 1)
      case measure => have := HGK.out; omega
      case rel =>
        have hbk := (hbw.trans (hb2.mono hbw.size)).trans (hal.mono (Nat.le_trans hbw.size hb2.size))
        refine ⟨j + 1, A3, c3, by have := HGK.out; omega, by go_num, rfl, ?_, below_row' hbk hown2 (Nat.le_refl _) hg3⟩
        rw [H.out.2]; unfold OwnU; rw [List.map_append]; exact hown3
    · obtain rfl : j = 8 := by omega
      have h8l : OwnU wo w1.heap.size A 8 c Sh.H0.l := hown
      obtain ⟨wh, rfl⟩ : ∃ wh : World, wh = wo := ⟨_, rfl⟩
      clear hgk hown
      go_wp2_with fail
      go_loopg [3, 6] 64 (fun r t i wr => ∃ (j : Nat) (A : Option Addr) (c : Nat), r + j = 64 ∧ i = .int .i64 (j : Int) ∧ t = .slice A j c ∧ OwnU wr wh.heap.size A j c (kls.take j) ∧ Below wh.heap.size wh wr)
      case atStart => exact ⟨0, none, 0, rfl, rfl, rfl, OwnU.nil _ _, Below.refl _ _⟩
      case round =>
        obtain ⟨j, A', c', hgk, rfl, rfl, hown, hbh⟩ := hrel
        have HGK2 := Lib.hid hgk
        obtain ⟨wp, rfl⟩ : ∃ wp : World, wp = wr := ⟨_, rfl⟩
        by_cases h64 : j < 64
        · clear hgk
          obtain ⟨p, x, hp, hp3, hx, hr⟩ := root_k j h64
          rw [← HL1.out] at hp
          have k1 := nth_n ((hown1.below hbw).below hbh).vs hp
          rw [Nat.zero_add] at k1
          have htk : kls.take (j + 1) = kls.take j ++ [x] := by rw [List.take_add_one, hx]; rfl
          have H := Lib.hid (And.intro hr htk)
          clear hp hx hr htk
          go_wp2_with fail
          refine (root_is hp3 (.inr rfl) H.out.1 wp).mono ?_
          rintro e w2 ⟨rfl, hb2⟩
          have hal : Below w2.heap.size w2 (w2.alloc (.cells #[.int .u32 (x.toNat : Int)] 34)) := (Below.refl _ _).alloc (Nat.le_refl _) _
          have hown2 := (hown.below hb2).below hal
          have hq : (j + 1) * 4 ≤ 140737488355328 := by omega
          have hq2 : j + 1 ≤ maxLen := by unfold maxLen; omega
          have hbz1 : wh.heap.size ≤ (w2.alloc (.cells #[.int .u32 (x.toNat : Int)] 34)).heap.size := Nat.le_trans (Nat.le_trans hbh.size hb2.size) hal.size
          go_wp2_with (at_builtin; refine wpList_appv Tryd.underlying88 info32 rfl rfl (.tmp 24) (.tmp 30) rfl wh.heap.size _ _ _ _ rfl hown2 _ _ 1 1 _ rfl (VS.oneu w2 x) (oneU _) hq hq2 hbz1 ?_; intro A3 c3 w3 hown3 hg3 _)
          go_roundg (gk - 1)
          case measure => have := HGK2.out; omega
          case rel =>
            have hbk := (hbh.trans (hb2.mono hbh.size)).trans (hal.mono (Nat.le_trans hbh.size hb2.size))
            refine ⟨j + 1, A3, c3, by have := HGK2.out; omega, by go_num, rfl, ?_, below_row' hbk hown2 (Nat.le_refl _) hg3⟩
            rw [H.out.2]; unfold OwnU; rw [List.map_append]; exact hown3
        · obtain rfl : j = 64 := by omega
          have h64l : OwnU wp wh.heap.size A' 64 c' kls := hown
          clear hgk hown
          go_wp2_with fail
          go_ret2
          refine ⟨_, _, _, _, rfl, (h8l.below hbh).vs, h64l.vs, ?_⟩
          exact (hb1.trans (hbw.mono hb1.size)).trans (hbh.mono (Nat.le_trans hb1.size hbw.size))

theorem nthu {w : World} {B n g o k : Nat} {l : List (BitVec 32)} (h : VS w B (some ⟨g, o, none⟩) n (l.map uv)) {x : BitVec 32} (hx : l[k]? = some x) : w.cell? ⟨g, o + k, none⟩ = some (.int .u32 (x.toNat : Int)) := VS.nthu h hx
set_option maxRecDepth 100000 in
set_option maxHeartbeats 8000000 in
theorem right05_any (w : World) : Calls Tryd.prog 26 #[] w (Yes w) := by
  go_enter Tryd.func26, Tryd.ntmps26
  go_wp2_with fail
  refine (consts_any w).mono ?_
  rintro e w1 ⟨g1, g2, rfl, v1, v2, hb1⟩
  go_wp2_with fail
  refine (roots_any w1).mono ?_
  rintro e w2 ⟨A3, c3, A4, c4, rfl, v3, v4, hb2⟩
  replace v1 := VS.stay v1 hb2
  replace v2 := VS.stay v2 hb2
  obtain ⟨g3, o3, rfl, hl3, -⟩ := v3.2 (by decide)
  obtain ⟨g4, o4, rfl, hl4, -⟩ := v4.2 (by decide)
  have hb := hb1.trans (hb2.mono hb1.size)
  go_wp2_with fail
  go_loopg [5] 8 (fun r i wr => ∃ (j : Nat), r + j = 8 ∧ i = .int .i64 (j : Int) ∧ Drawn w2 wr)
  case atStart => exact ⟨0, rfl, rfl, Drawn.refl _⟩
  case round =>
    obtain ⟨j, hgk, rfl, hdr⟩ := hrel
    have HGK := Lib.hid hgk
    obtain ⟨wo, rfl⟩ : ∃ wo : World, wo = wr := ⟨_, rfl⟩
    by_cases h8 : j < 8
    · clear hgk
      obtain ⟨p, x, hp, hp3, hx, hr⟩ := root_h j h8
      have k1 := nthu (v1.below (hdr.below _)) hx
      have k3 := nthu (v3.below (hdr.below _)) hx
      have j1 : (0 : Int) ≤ (j : Int) := by omega
      have j2 : (j : Int) < 8 := by omega
      rw [Nat.zero_add] at k1
      clear hp hx hr
      go_wp2_with fail
      go_quiet (fail)
      go_wp2_with fail
      go_roundg (gk - 1)
      case measure => have := HGK.out; omega
      case rel => exact ⟨j + 1, by have := HGK.out; omega, by go_num, hdr.trans ⟨_, rfl⟩⟩
    · obtain rfl : j = 8 := by omega
      clear hgk
      go_wp2_with fail
      go_loopg [6] 64 (fun r i wr => ∃ (j : Nat), r + j = 64 ∧ i = .int .i64 (j : Int) ∧ Drawn w2 wr)
      case atStart => exact ⟨0, rfl, rfl, hdr⟩
      case round =>
        clear hdr
        obtain ⟨j, hgk, rfl, hdr⟩ := hrel
        have HGK := Lib.hid hgk
        obtain ⟨wp, rfl⟩ : ∃ wp : World, wp = wr := ⟨_, rfl⟩
        by_cases h8 : j < 64
        · clear hgk
          obtain ⟨p, x, hp, hp3, hx, hr⟩ := root_k j h8
          have k2 := nthu (v2.below (hdr.below _)) hx
          have k4 := nthu (v4.below (hdr.below _)) hx
          have j1 : (0 : Int) ≤ (j : Int) := by omega
          have j2 : (j : Int) < 64 := by omega
          rw [Nat.zero_add] at k2
          clear hp hx hr
          go_wp2_with fail
          go_quiet (fail)
          go_wp2_with fail
          go_roundg (gk - 1)
          case measure => have := HGK.out; omega
          case rel => exact ⟨j + 1, by have := HGK.out; omega, by go_num, hdr.trans ⟨_, rfl⟩⟩
        · obtain rfl : j = 64 := by omega
          clear hgk
          go_wp2_with fail
          go_ret
          exact ⟨rfl, hb.trans (hdr.below _)⟩
end Go.Proofs.YtmnanbcinfdbaaaDoor
