/- The walks of frame.Wrap, frame.Need and of the reference of frame; conditions: none beyond their hypotheses. -/
import Derived.Test.YtaaajmonabhdgaaDoorFr
namespace Go.Proofs.YtaaajmonabhdgaaDoor
open Go.RowKit Go.Proofs.U
set_option linter.unusedVariables false

theorem two_len (n : Nat) : (two n).length = 2 := rfl
theorem fwrap_ok (p : List UInt8) (h : p.length ≤ 1400) : fwrap p = (sealed (two p.length) ++ sealed p, 0) := by unfold fwrap; rw [if_neg (by omega)]
theorem fwrap_no (p : List UInt8) (h : 1400 < p.length) : fwrap p = ([], 13) := by unfold fwrap; rw [if_pos h]
theorem byte_hi (n : Nat) (h : n ≤ 1400) : ((n : Int) / 256) % 256 = ((UInt8.ofNat (n / 256)).toNat : Int) := by rw [UInt8.toNat_ofNat']; omega
theorem byte_hi' (n : Nat) (h : n ≤ 1400) : ((n : Int) / 256) = ((UInt8.ofNat (n / 256)).toNat : Int) := by rw [UInt8.toNat_ofNat']; omega
theorem byte_lo (n : Nat) : ((n : Int)) % 256 = ((UInt8.ofNat n).toNat : Int) := by rw [UInt8.toNat_ofNat']; omega

set_option maxHeartbeats 1000000 in
theorem wrap_any (A : Option Addr) (n c : Nat) (bs : List UInt8) (w : World) (hb : BS w w.heap.size A n bs) (hn : n ≤ 140737488355300) (hT : Nib w) :
    Calls Tryd.prog 25 #[.slice A n c] w (OwnCode 5 w (fwrap bs)) := by
  have hl := hb.1
  by_cases hbig : 1400 < n
  · rw [fwrap_no bs (by omega)]
    go_enter Tryd.func25, Tryd.ntmps25
    go_wp2_with fail
    go_ret2
    exact ⟨none, 0, rfl, Own.nil _ _ _, Below.refl _ _⟩
  · rw [fwrap_ok bs (by omega), hl]
    obtain ⟨x, y, htwo, hh, hlo⟩ : ∃ x y, two n = [x, y] ∧ (n : Int) / 256 = (x.toNat : Int) ∧ (n : Int) % 256 = (y.toNat : Int) := ⟨_, _, rfl, byte_hi' n (by omega), byte_lo n⟩
    rw [htwo]
    clear htwo
    go_enter Tryd.func25, Tryd.ntmps25
    go_wp2_with fail
    have hb0 : Below w.heap.size w (w.alloc (.cells (([x, y] : List UInt8).map bv).toArray 5)) := (Below.refl _ _).alloc (Nat.le_refl _) _
    refine (seal_any _ _ _ [x, y] (w.alloc (.cells (([x, y] : List UInt8).map bv).toArray 5)) (BS.fresh w 5 [x, y]) (by simp) (hT.stay hb0)).mono ?_
    rintro e w1 ⟨A1, c1, rfl, hown1, hb1⟩
    have hb01 := hb0.trans (hb1.mono hb0.size)
    go_wp2_with fail
    refine (seal_any _ _ _ bs _ ((hb.below hb01).more hb01.size) (by omega) (hT.stay hb01)).mono ?_
    rintro e w2 ⟨A2, c2, rfl, hown2, hb2⟩
    have hb02 := hb01.trans (hb2.mono hb01.size)
    have hown1' := (hown1.below hb2).mono (hb0.size)
    go_wp2_with (at_builtin; refine wpList_app bt rfl _ _ rfl w.heap.size _ _ _ (sealed [x, y]) rfl hown1' _ _ _ _ (sealed bs) rfl hown2.bs (by omega) hb02.size ?_; intro A3 c3 w3 hown3 hg3 _)
    go_ret2
    have hlen : (sealed [x, y] ++ sealed bs).length = 2 + 4 + (n + 4) := by simp [sealed_len, hl]
    refine ⟨A3, c3, by simp [hlen], ?_, below_of_grown hb02 hb02.size hown1' (Nat.le_refl _) hg3⟩
    rw [hlen]; exact hown3

set_option maxHeartbeats 1000000 in
theorem rwrap_any (A : Option Addr) (n c : Nat) (bs : List UInt8) (w : World) (hb : BS w w.heap.size A n bs) (hn : n ≤ 140737488355300) :
    Calls Tryd.prog 26 #[.slice A n c] w (OwnCode 5 w (fwrap bs)) := by
  have hl := hb.1
  by_cases hbig : 1400 < n
  · rw [fwrap_no bs (by omega)]
    go_enter Tryd.func26, Tryd.ntmps26
    go_wp2_with fail
    go_ret2
    exact ⟨none, 0, rfl, Own.nil _ _ _, Below.refl _ _⟩
  · rw [fwrap_ok bs (by omega), hl]
    obtain ⟨x, y, htwo, hh, hlo⟩ : ∃ x y, two n = [x, y] ∧ (n : Int) / 256 = (x.toNat : Int) ∧ (n : Int) % 256 = (y.toNat : Int) := ⟨_, _, rfl, byte_hi' n (by omega), byte_lo n⟩
    rw [htwo]
    clear htwo
    go_enter Tryd.func26, Tryd.ntmps26
    go_wp2_with fail
    have hb0 : Below w.heap.size w (w.alloc (.cells (([x, y] : List UInt8).map bv).toArray 5)) := (Below.refl _ _).alloc (Nat.le_refl _) _
    refine (rseal_any _ _ _ [x, y] (w.alloc (.cells (([x, y] : List UInt8).map bv).toArray 5)) (BS.fresh w 5 [x, y]) (by simp)).mono ?_
    rintro e w1 ⟨A1, c1, rfl, hown1, hb1⟩
    have hb01 := hb0.trans (hb1.mono hb0.size)
    go_wp2_with fail
    refine (rseal_any _ _ _ bs _ ((hb.below hb01).more hb01.size) (by omega)).mono ?_
    rintro e w2 ⟨A2, c2, rfl, hown2, hb2⟩
    have hb02 := hb01.trans (hb2.mono hb01.size)
    have hown1' := (hown1.below hb2).mono (hb0.size)
    go_wp2_with (at_builtin; refine wpList_app bt rfl _ _ rfl w.heap.size _ _ _ (sealed [x, y]) rfl hown1' _ _ _ _ (sealed bs) rfl hown2.bs (by omega) hb02.size ?_; intro A3 c3 w3 hown3 hg3 _)
    go_ret2
    have hlen : (sealed [x, y] ++ sealed bs).length = 2 + 4 + (n + 4) := by simp [sealed_len, hl]
    refine ⟨A3, c3, by simp [hlen], ?_, below_of_grown hb02 hb02.size hown1' (Nat.le_refl _) hg3⟩
    rw [hlen]; exact hown3

/-! the reference's Take and Need -/
/-- bytes, a number and a code -/
def RTakeRet (w : World) (r : List UInt8 × Nat × Int) (en : Ending) (w' : World) : Prop :=
  ∃ A c, en = .returned (.tuple #[.slice A r.1.length c, .int .i64 (r.2.1 : Int), .int .i64 r.2.2]) ∧ BS w' w'.heap.size A r.1.length r.1 ∧ Below w.heap.size w w'

set_option maxHeartbeats 1000000 in
theorem rtake_any (A : Option Addr) (n c : Nat) (bs : List UInt8) (w : World) (hb : BS w w.heap.size A n bs) (hn : n ≤ 140737488355300) (hc : n ≤ c) :
    Calls Tryd.prog 29 #[.slice A n c] w (RTakeRet w (ftake bs)) := by
  have hl := hb.1
  by_cases h6 : n < 6
  · have e : ftake bs = ([], 0, 11) := by
      have : flen bs = (0, 11) := by unfold flen; rw [if_pos (by omega)]
      unfold ftake; rw [this]; simp
    rw [e]
    go_enter Tryd.func29, Tryd.ntmps29
    go_wp2_with fail
    go_ret3
    exact ⟨none, 0, rfl, BS.nil _ _ _, Below.refl _ _⟩
  · obtain ⟨b, off, rfl, _, _⟩ := hb.2 (by omega)
    have hb6 := hb.take (k := 6) (by omega)
    rcases opn_six bs (by omega) with ⟨x, y, ho, hx, hy⟩ | ho
    · have hx0 := x.toNat_lt
      have hy0 := y.toNat_lt
      obtain ⟨k, hkk⟩ : ∃ k, k = num2 x y := ⟨_, rfl⟩
      have hnum : (x.toNat : Int) * 256 + (y.toNat : Int) = (k : Int) := by rw [hkk]; unfold num2; omega
      have hk16 : k < 65536 := by rw [hkk]; exact num2_lt x y
      have hcode : flen bs = if 1400 < k then (0, 13) else (k, 0) := by unfold flen; rw [if_neg (by omega), ho, hkk]
      have w1 : IntKind.i64.wrap ((x.toNat : Int) * 256) = (x.toNat : Int) * 256 := IntWalk.i64_in _ (by omega)
      have w2 : IntKind.i64.wrap ((x.toNat : Int) * 256 + (y.toNat : Int)) = (k : Int) := by rw [hnum]; exact IntWalk.i64_in _ (by omega)
      have Hkk := Lib.hid hkk
      clear hkk
      by_cases hbig : 1400 < k
      · have e : ftake bs = ([], 0, 13) := by rw [if_pos hbig] at hcode; unfold ftake; rw [hcode]; simp
        rw [e]
        have Ho := Lib.hid ho
        clear ho hcode e hx hy
        go_enter Tryd.func29, Tryd.ntmps29
        go_wp2_with fail
        refine (ropen_any _ _ _ (bs.take 6) _ hb6 (by omega) (by omega)).mono ?_
        rw [Ho.out]
        rintro e w1 ⟨A1, c1, rfl, hown1, hb1⟩
        obtain ⟨b1, off1, rfl, _, _⟩ := hown1.2 (by simp)
        have hc0 := hown1.cells 0 x rfl
        simp only [Nat.add_zero] at hc0
        have hc1 := hown1.cells 1 y rfl
        go_wp2_with fail
        go_quiet (fail)
        go_wp2_with fail
        go_ret3
        exact ⟨none, 0, rfl, BS.nil _ _ _, below_drewN hb1 _⟩
      · rw [if_neg hbig] at hcode
        by_cases hs : bs.length < k + 10
        · have e : ftake bs = ([], 0, 11) := by unfold ftake; rw [hcode]; simp [hs]
          rw [e]
          have hs1 : decide ((n : Int) < (k : Int) + 10) = true := by simp; omega
          have Ho := Lib.hid ho
          clear ho hcode e hx hy
          go_enter Tryd.func29, Tryd.ntmps29
          go_wp2_with fail
          refine (ropen_any _ _ _ (bs.take 6) _ hb6 (by omega) (by omega)).mono ?_
          rw [Ho.out]
          rintro e w1 ⟨A1, c1, rfl, hown1, hb1⟩
          obtain ⟨b1, off1, rfl, _, _⟩ := hown1.2 (by simp)
          have hc0 := hown1.cells 0 x rfl
          simp only [Nat.add_zero] at hc0
          have hc1 := hown1.cells 1 y rfl
          go_wp2_with fail
          go_quiet (fail)
          go_wp2_with fail
          go_ret3
          exact ⟨none, 0, rfl, BS.nil _ _ _, below_drewN hb1 _⟩
        · have hs1 : decide ((n : Int) < (k : Int) + 10) = false := by simp; omega
          have hbd : BS w w.heap.size (some ⟨b, off + 6, none⟩) (k + 4) ((bs.drop 6).take (k + 4)) := (hb.drop (k := 6) (by omega)).take (by omega)
          have i1 : ((k : Int) + 10).toNat = k + 10 := by omega
          have i2 : k + 10 - 6 = k + 4 := by omega
          have i3 : (6 : Int) ≤ (k : Int) + 10 := by omega
          have i4 : ((k : Int) + 10) ≤ (c : Int) := by omega
          have i5 : ¬ c = 6 := by omega
          have hft : ftake bs = if (opn ((bs.drop 6).take (k + 4))).2 ≠ 0 then ([], 0, (opn ((bs.drop 6).take (k + 4))).2) else ((opn ((bs.drop 6).take (k + 4))).1, k + 10, 0) := by
            unfold ftake; rw [hcode]; simp [hs]
          have h2 := opn_code ((bs.drop 6).take (k + 4)) (by simp; omega)
          have h2' : (∃ p, opn ((bs.drop 6).take (k + 4)) = (p, 0)) ∨ opn ((bs.drop 6).take (k + 4)) = ([], 14) := by
            rcases h2 with ⟨h1, _⟩ | h1
            · exact .inl ⟨_, by rw [← h1]⟩
            · exact .inr h1
          clear h2
          rcases h2' with ⟨p, hp⟩ | hp
          all_goals
            rw [hp] at hft
            simp only [ne_eq, not_true_eq_false, not_false_eq_true, reduceCtorEq, if_true, if_false] at hft
            rw [hft]
            have Ho := Lib.hid ho
            have Hp := Lib.hid hp
            clear ho hcode hp hft hx hy
            go_enter Tryd.func29, Tryd.ntmps29
            go_wp2_with fail
            refine (ropen_any _ _ _ (bs.take 6) _ hb6 (by omega) (by omega)).mono ?_
            rw [Ho.out]
            rintro e w1 ⟨A1, c1, rfl, hown1, hb1⟩
            obtain ⟨b1, off1, rfl, _, _⟩ := hown1.2 (by simp)
            have hc0 := hown1.cells 0 x rfl
            simp only [Nat.add_zero] at hc0
            have hc1 := hown1.cells 1 y rfl
            go_wp2_with fail
            go_quiet (fail)
            go_wp2_with fail
            refine (ropen_any _ _ _ ((bs.drop 6).take (k + 4)) _ (((hbd.below hb1).more hb1.size).drewN _) (by omega) (by omega)).mono ?_
            rw [Hp.out]
            rintro e w2 ⟨A2, c2, rfl, hown2, hb2⟩
            go_wp2_with fail
            go_ret3
            have hb12 : Below w.heap.size w w2 := (below_drewN hb1 _).trans (hb2.mono hb1.size)
            first
              | exact ⟨none, 0, rfl, BS.nil _ _ _, hb12⟩
              | (refine ⟨A2, c2, ?_, hown2, hb12⟩
                 simp)
    · have e : ftake bs = ([], 0, 14) := by
        have : flen bs = (0, 14) := by unfold flen; rw [if_neg (by omega), ho]
        unfold ftake; rw [this]; simp
      rw [e]
      go_enter Tryd.func29, Tryd.ntmps29
      go_wp2_with fail
      refine (ropen_any _ _ _ (bs.take 6) _ hb6 (by omega) (by omega)).mono ?_
      rw [ho]
      rintro e w1 ⟨A1, c1, rfl, hown1, hb1⟩
      go_wp2_with fail
      go_ret3
      exact ⟨none, 0, rfl, BS.nil _ _ _, hb1⟩

set_option maxHeartbeats 1000000 in
theorem need_any (A : Option Addr) (n c : Nat) (bs : List UInt8) (w : World) (hb : BS w w.heap.size A n bs) (hn : n ≤ 140737488355300) (hc : n ≤ c) (hT : Nib w) :
    Calls Tryd.prog 30 #[.slice A n c] w (NumCode w (fneed bs)) := by
  have hl := hb.1
  have hk := flen_lt bs
  have hcode := flen_code bs
  have hlen := length_any A n c bs w hb hn hc hT
  unfold fneed
  obtain ⟨k, e⟩ : ∃ r, r = flen bs := ⟨_, rfl⟩
  rw [← e] at hk hcode hlen ⊢
  have He := Lib.hid e
  clear e
  obtain ⟨k, code⟩ := k
  simp only at hk hcode ⊢
  rcases hcode with ⟨rfl, h6⟩ | hbad
  · by_cases hs : bs.length < k + 10
    · have e : (if (0 : Int) = 11 then (6 - bs.length, (0 : Int)) else if (0 : Int) ≠ 0 then (0, 0) else if bs.length < k + 10 then (k + 10 - bs.length, 0) else (0, (ftake bs).2.2)) = (k + 10 - n, 0) := by rw [← hl]; simp [hs]
      rw [e]
      clear e
      have hs1 : decide ((n : Int) < 10 + (k : Int)) = true := by simp; omega
      go_enter Tryd.func30, Tryd.ntmps30
      go_wp2_with fail
      refine hlen.mono ?_
      rintro e w1 ⟨rfl, hb1⟩
      go_wp2_with fail
      refine (size_nat k (by omega) _).mono ?_
      rintro e w' ⟨rfl, rfl⟩
      go_wp2_with fail
      refine (size_nat k (by omega) _).mono ?_
      rintro e w' ⟨rfl, rfl⟩
      go_wp2_with fail
      go_ret2
      refine ⟨?_, hb1⟩
      simp; omega
    · have e : (if (0 : Int) = 11 then (6 - bs.length, (0 : Int)) else if (0 : Int) ≠ 0 then (0, 0) else if bs.length < k + 10 then (k + 10 - bs.length, 0) else (0, (ftake bs).2.2)) = (0, (ftake bs).2.2) := by simp [hs]
      rw [e]
      clear e
      have hs1 : decide ((n : Int) < 10 + (k : Int)) = false := by simp; omega
      go_enter Tryd.func30, Tryd.ntmps30
      go_wp2_with fail
      refine hlen.mono ?_
      rintro e w1 ⟨rfl, hb1⟩
      go_wp2_with fail
      refine (size_nat k (by omega) _).mono ?_
      rintro e w' ⟨rfl, rfl⟩
      go_wp2_with fail
      refine (take_any A n c bs _ ((hb.below hb1).more hb1.size) hn hc (hT.stay hb1)).mono ?_
      rintro e w2 ⟨A2, c2, rfl, hown2, hb2⟩
      go_wp2_with fail
      go_ret2
      exact ⟨rfl, hb1.trans (hb2.mono hb1.size)⟩
  · rcases hbad with ⟨rfl, h6⟩ | ⟨rfl, h6⟩ | ⟨rfl, h6⟩
    · simp only [if_true]
      go_enter Tryd.func30, Tryd.ntmps30
      go_wp2_with fail
      refine hlen.mono ?_
      rintro e w1 ⟨rfl, hb1⟩
      go_wp2_with fail
      go_ret2
      refine ⟨?_, hb1⟩
      simp; omega
    all_goals
      simp only [ne_eq, reduceCtorEq, not_false_eq_true, if_true, if_false]
      go_enter Tryd.func30, Tryd.ntmps30
      go_wp2_with fail
      refine hlen.mono ?_
      rintro e w1 ⟨rfl, hb1⟩
      go_wp2_with fail
      go_ret2
      exact ⟨rfl, hb1⟩

/-- what the reference's Need says is the same -/
theorem fneed_eq (b : List UInt8) : ((ftake b).2.2 ≠ 11 ∧ fneed b = (0, (ftake b).2.2)) ∨ ((ftake b).2.2 = 11 ∧ b.length < 6 ∧ fneed b = (6 - b.length, 0)) ∨
    ((ftake b).2.2 = 11 ∧ 6 ≤ b.length ∧ ∃ x y, b[0]? = some x ∧ b[1]? = some y ∧ b.length < num2 x y + 10 ∧ fneed b = (num2 x y + 10 - b.length, 0)) := by
  by_cases h6 : b.length < 6
  · have hf : flen b = (0, 11) := by unfold flen; rw [if_pos h6]
    right; left
    refine ⟨?_, h6, ?_⟩
    · unfold ftake; rw [hf]; simp
    · unfold fneed; rw [hf]; simp
  · rcases opn_six b (by omega) with ⟨x, y, ho, hx, hy⟩ | ho
    · by_cases hbig : 1400 < num2 x y
      · have hf : flen b = (0, 13) := by unfold flen; rw [if_neg h6, ho]; simp [hbig]
        left
        have ht : ftake b = ([], 0, 13) := by unfold ftake; rw [hf]; simp
        rw [ht]
        refine ⟨by simp, ?_⟩
        unfold fneed; rw [hf]; simp
      · have hf : flen b = (num2 x y, 0) := by unfold flen; rw [if_neg h6, ho]; simp [hbig]
        by_cases hs : b.length < num2 x y + 10
        · right; right
          refine ⟨by unfold ftake; rw [hf]; simp [hs], by omega, x, y, hx, hy, hs, ?_⟩
          unfold fneed; rw [hf]; simp [hs]
        · left
          have hne : (ftake b).2.2 ≠ 11 := by
            unfold ftake; rw [hf]
            simp only [ne_eq, not_true_eq_false, if_false, hs]
            rcases opn_code ((b.drop 6).take (num2 x y + 4)) (by simp; omega) with ⟨h1, _⟩ | h1
            · rw [if_neg (by rw [h1]; simp)]; simp
            · rw [h1]; simp
          refine ⟨hne, ?_⟩
          unfold fneed; rw [hf]; simp [hs]
    · have hf : flen b = (0, 14) := by unfold flen; rw [if_neg h6, ho]
      left
      have ht : ftake b = ([], 0, 14) := by unfold ftake; rw [hf]; simp
      rw [ht]
      refine ⟨by simp, ?_⟩
      unfold fneed; rw [hf]; simp

set_option maxHeartbeats 1000000 in
theorem rneed_any (A : Option Addr) (n c : Nat) (bs : List UInt8) (w : World) (hb : BS w w.heap.size A n bs) (hn : n ≤ 140737488355300) (hc : n ≤ c) :
    Calls Tryd.prog 31 #[.slice A n c] w (NumCode w (fneed bs)) := by
  have hl := hb.1
  have htake := rtake_any A n c bs w hb hn hc
  rcases fneed_eq bs with ⟨h1, h2⟩ | ⟨h1, h6, h2⟩ | ⟨h1, h6, x, y, hx, hy, hs, h2⟩
  · rw [h2]
    have hne : ((ftake bs).2.2 != 11) = true := by simpa using h1
    clear h1 h2
    go_enter Tryd.func31, Tryd.ntmps31
    go_wp2_with fail
    refine htake.mono ?_
    rintro e w1 ⟨A1, c1, rfl, hbs1, hb1⟩
    go_wp2_with fail
    go_ret2
    exact ⟨rfl, hb1⟩
  · rw [h2]
    have H1 := Lib.hid h1
    have H2 := Lib.hid h2
    clear h1 h2
    go_enter Tryd.func31, Tryd.ntmps31
    go_wp2_with fail
    refine htake.mono ?_
    rintro e w1 ⟨A1, c1, rfl, hbs1, hb1⟩
    rw [H1.out]
    go_wp2_with fail
    go_ret2
    refine ⟨?_, hb1⟩
    simp; omega
  · rw [h2]
    have hx0 := x.toNat_lt
    have hy0 := y.toNat_lt
    obtain ⟨b, off, rfl, _, _⟩ := hb.2 (by omega)
    have hcl := hb.cells
    have hc0 := hcl 0 x hx
    have hc1 := hcl 1 y hy
    simp only [Nat.add_zero] at hc0
    have i0 : (0 : Int) < (n : Int) := by omega
    have i1 : (1 : Int) < (n : Int) := by omega
    have w1 : IntKind.i64.wrap ((x.toNat : Int) * 256) = (x.toNat : Int) * 256 := IntWalk.i64_in _ (by omega)
    have w2 : IntKind.i64.wrap ((x.toNat : Int) * 256 + (y.toNat : Int)) = (x.toNat : Int) * 256 + (y.toNat : Int) := IntWalk.i64_in _ (by omega)
    have w3 : IntKind.i64.wrap ((x.toNat : Int) * 256 + (y.toNat : Int) + 10) = (x.toNat : Int) * 256 + (y.toNat : Int) + 10 := IntWalk.i64_in _ (by omega)
    have w4 : IntKind.i64.wrap ((x.toNat : Int) * 256 + (y.toNat : Int) + 10 - (n : Int)) = (x.toNat : Int) * 256 + (y.toNat : Int) + 10 - (n : Int) := IntWalk.i64_in _ (by omega)
    have H1 := Lib.hid h1
    have H2 := Lib.hid h2
    clear h1 h2 hx hy hcl
    go_enter Tryd.func31, Tryd.ntmps31
    go_wp2_with fail
    refine htake.mono ?_
    rintro e w1 ⟨A1, c1, rfl, hbs1, hb1⟩
    rw [H1.out]
    have hd0 : w1.cell? ⟨b, off, none⟩ = some (.int .u8 (x.toNat : Int)) := (hb1.cell (World.block_lt_of_cell? w _ hc0)).trans hc0
    have hd1 : w1.cell? ⟨b, off + 1, none⟩ = some (.int .u8 (y.toNat : Int)) := (hb1.cell (World.block_lt_of_cell? w _ hc1)).trans hc1
    go_wp2_with fail
    go_quiet (fail)
    go_wp2_with fail
    go_ret2
    refine ⟨?_, below_drewN hb1 _⟩
    unfold num2 at hs ⊢
    simp; omega
end Go.Proofs.YtaaajmonabhdgaaDoor
