/- The walks of frame.Wrap, frame.Need and of the reference of frame; conditions: none beyond their hypotheses. -/
import Derived.Test.YthhhiiagppckhaaDoorDfr
namespace Go.Proofs.YthhhiiagppckhaaDoor
open Go.RowKit Go.Proofs.U
set_option linter.unusedVariables false

theorem two_len (n : Nat) : (two n).length = 2 := rfl
theorem fwrap_ok (p : List UInt8) (h : p.length ≤ 1400) : fwrap p = (sealed (two p.length) ++ sealed p, 0) := by unfold fwrap; rw [if_neg (by omega)]
theorem fwrap_no (p : List UInt8) (h : 1400 < p.length) : fwrap p = ([], 13) := by unfold fwrap; rw [if_pos h]
theorem byte_hi (n : Nat) (h : n ≤ 1400) : ((n : Int) / 256) % 256 = ((UInt8.ofNat (n / 256)).toNat : Int) := by rw [UInt8.toNat_ofNat']; omega
theorem byte_hi' (n : Nat) (h : n ≤ 1400) : ((n : Int) / 256) = ((UInt8.ofNat (n / 256)).toNat : Int) := by rw [UInt8.toNat_ofNat']; omega
theorem byte_lo (n : Nat) : ((n : Int)) % 256 = ((UInt8.ofNat n).toNat : Int) := by rw [UInt8.toNat_ofNat']; omega

set_option maxHeartbeats 1000000 in
theorem fwrap_any (A : Option Addr) (n c : Nat) (bs : List UInt8) (w : World) (hb : BS w w.heap.size A n bs) (hn : n ≤ 140737488355300) (hT : Nib w) :
    Calls Tryd.prog 16 #[.slice A n c] w (OwnCode 5 w (fwrap bs)) := by
  have hl := hb.1
  by_cases hbig : 1400 < n
  · rw [fwrap_no bs (by omega)]
    go_enter Tryd.func16, Tryd.ntmps16
    go_wp2_with fail
    go_ret2
    exact ⟨none, 0, rfl, Own.nil _ _ _, Below.refl _ _⟩
  · rw [fwrap_ok bs (by omega), hl]
    obtain ⟨x, y, htwo, hh, hlo⟩ : ∃ x y, two n = [x, y] ∧ (n : Int) / 256 = (x.toNat : Int) ∧ (n : Int) % 256 = (y.toNat : Int) := ⟨_, _, rfl, byte_hi' n (by omega), byte_lo n⟩
    rw [htwo]
    clear htwo
    go_enter Tryd.func16, Tryd.ntmps16
    go_wp2_with fail
    have hb0 : Below w.heap.size w (w.alloc (.cells (([x, y] : List UInt8).map bv).toArray 5)) := (Below.refl _ _).alloc (Nat.le_refl _) _
    refine (seal_any _ _ _ [x, y] (w.alloc (.cells (([x, y] : List UInt8).map bv).toArray 5)) (BS.fresh w 5 [x, y]) (by simp) (hT.stay hb0)).mono ?_
    rintro e w1 ⟨A1, c1, rfl, hown1, hb1⟩
    have hb01 := hb0.trans (hb1.mono hb0.size)
    go_wp2_with fail
    refine (seal_any _ _ _ bs _ ((hb.below hb01).more hb01.size) (by omega) (hT.stay hb01)).mono ?_
    rintro e w2 ⟨A2, c2, rfl, hown2, hb2⟩
    have hb02 := hb01.trans (hb2.mono hb01.size)
    have hown1' := (hown1.below hb2).mono (hb0.size)
    go_wp2_with (at_builtin; refine wpList_app bt rfl _ _ rfl w.heap.size _ _ _ (sealed [x, y]) rfl hown1' _ _ _ _ (sealed bs) rfl hown2.bs (by omega) hb02.size ?_; intro A3 c3 w3 hown3 hg3 _)
    go_ret2
    have hlen : (sealed [x, y] ++ sealed bs).length = 2 + 4 + (n + 4) := by simp [sealed_len, hl]
    refine ⟨A3, c3, by simp [hlen], ?_, below_of_grown hb02 hb02.size hown1' (Nat.le_refl _) hg3⟩
    rw [hlen]; exact hown3

set_option maxHeartbeats 1000000 in
theorem need_any (A : Option Addr) (n c : Nat) (bs : List UInt8) (w : World) (hb : BS w w.heap.size A n bs) (hn : n ≤ 140737488355300) (hc : n ≤ c) (hT : Nib w) :
    Calls Tryd.prog 114 #[.slice A n c] w (NumCode w (fneed bs)) := by
  have hl := hb.1
  have hk := flen_lt bs
  have hcode := flen_code bs
  have hlen := length_any A n c bs w hb hn hc hT
  unfold fneed
  obtain ⟨k, e⟩ : ∃ r, r = flen bs := ⟨_, rfl⟩
  rw [← e] at hk hcode hlen ⊢
  have He := Lib.hid e
  clear e
  obtain ⟨k, code⟩ := k
  simp only at hk hcode ⊢
  rcases hcode with ⟨rfl, h6⟩ | hbad
  · by_cases hs : bs.length < k + 10
    · have e : (if (0 : Int) = 11 then (6 - bs.length, (0 : Int)) else if (0 : Int) ≠ 0 then (0, 0) else if bs.length < k + 10 then (k + 10 - bs.length, 0) else (0, (ftake bs).2.2)) = (k + 10 - n, 0) := by rw [← hl]; simp [hs]
      rw [e]
      clear e
      have hs1 : decide ((n : Int) < 10 + (k : Int)) = true := by simp; omega
      go_enter Tryd.func114, Tryd.ntmps114
      go_wp2_with fail
      refine hlen.mono ?_
      rintro e w1 ⟨rfl, hb1⟩
      go_wp2_with fail
      refine (size_nat k (by omega) _).mono ?_
      rintro e w' ⟨rfl, rfl⟩
      go_wp2_with fail
      refine (size_nat k (by omega) _).mono ?_
      rintro e w' ⟨rfl, rfl⟩
      go_wp2_with fail
      go_ret2
      refine ⟨?_, hb1⟩
      simp; omega
    · have e : (if (0 : Int) = 11 then (6 - bs.length, (0 : Int)) else if (0 : Int) ≠ 0 then (0, 0) else if bs.length < k + 10 then (k + 10 - bs.length, 0) else (0, (ftake bs).2.2)) = (0, (ftake bs).2.2) := by simp [hs]
      rw [e]
      clear e
      have hs1 : decide ((n : Int) < 10 + (k : Int)) = false := by simp; omega
      go_enter Tryd.func114, Tryd.ntmps114
      go_wp2_with fail
      refine hlen.mono ?_
      rintro e w1 ⟨rfl, hb1⟩
      go_wp2_with fail
      refine (size_nat k (by omega) _).mono ?_
      rintro e w' ⟨rfl, rfl⟩
      go_wp2_with fail
      refine (take_any A n c bs _ ((hb.below hb1).more hb1.size) hn hc (hT.stay hb1)).mono ?_
      rintro e w2 ⟨A2, c2, rfl, hown2, hb2⟩
      go_wp2_with fail
      go_ret2
      exact ⟨rfl, hb1.trans (hb2.mono hb1.size)⟩
  · rcases hbad with ⟨rfl, h6⟩ | ⟨rfl, h6⟩ | ⟨rfl, h6⟩
    · simp only [if_true]
      go_enter Tryd.func114, Tryd.ntmps114
      go_wp2_with fail
      refine hlen.mono ?_
      rintro e w1 ⟨rfl, hb1⟩
      go_wp2_with fail
      go_ret2
      refine ⟨?_, hb1⟩
      simp; omega
    all_goals
      simp only [ne_eq, reduceCtorEq, not_false_eq_true, if_true, if_false]
      go_enter Tryd.func114, Tryd.ntmps114
      go_wp2_with fail
      refine hlen.mono ?_
      rintro e w1 ⟨rfl, hb1⟩
      go_wp2_with fail
      go_ret2
      exact ⟨rfl, hb1⟩

end Go.Proofs.YthhhiiagppckhaaDoor
