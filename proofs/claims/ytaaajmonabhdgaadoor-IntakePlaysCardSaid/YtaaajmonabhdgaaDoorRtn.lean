/- The walks of the references of check and frame that take: what is taken lies in the blocks of what it was taken of; conditions: none beyond their hypotheses. -/
import Derived.Test.YtaaajmonabhdgaaDoorFr2
import Derived.Test.YtaaajmonabhdgaaDoorSs
namespace Go.Proofs.YtaaajmonabhdgaaDoor
open Go.RowKit Go.Proofs.U
set_option linter.unusedVariables false

def ElCode (lo : Nat) (w : World) (r : List UInt8 × Int) (en : Ending) (w' : World) : Prop :=
  ∃ A c, en = .returned (.tuple #[.slice A r.1.length c, .int .i64 r.2]) ∧ El w' lo 5 (.slice A r.1.length c) r.1 ∧ Below w.heap.size w w'
def RTakeEl (lo : Nat) (w : World) (r : List UInt8 × Nat × Int) (en : Ending) (w' : World) : Prop :=
  ∃ A c, en = .returned (.tuple #[.slice A r.1.length c, .int .i64 (r.2.1 : Int), .int .i64 r.2.2]) ∧ El w' lo 5 (.slice A r.1.length c) r.1 ∧ Below w.heap.size w w'

set_option maxHeartbeats 400000 in
theorem ropenEl_any (A : Option Addr) (n c : Nat) (bs : List UInt8) (w : World) (lo : Nat) (hel : El w lo 5 (.slice A n c) bs) (hn : n ≤ 140737488355300) :
    Calls Tryd.prog 22 #[.slice A n c] w (ElCode lo w (opn bs)) := by
  obtain ⟨hb, hc⟩ := hel.open_
  by_cases h4 : n < 4
  · have e : opn bs = ([], 11) := by unfold opn; rw [if_pos (by rw [hb.1]; exact h4)]
    rw [e]
    go_enter Tryd.func22, Tryd.ntmps22
    go_wp2_with fail
    go_ret2
    exact ⟨none, 0, rfl, El.nil _ _ _ _ _, Below.refl _ _⟩
  · have hl := hb.1
    have hbd := hb.take (k := n - 4) (by omega)
    have held := hel.take (k := n - 4) (by omega)
    have hq : opn bs = if sealed (bs.take (n - 4)) = bs then (bs.take (n - 4), 0) else ([], 14) := by
      unfold opn; rw [if_neg (by omega), hl]
      by_cases h : bs = sealed (bs.take (n - 4))
      · rw [if_pos h, if_pos h.symm]
      · rw [if_neg h, if_neg (fun e => h e.symm)]
    rw [hq]
    have hlen : (bs.take (n - 4)).length = n - 4 := hbd.1
    generalize bs.take (n - 4) = body at hbd hlen held
    clear hq hl
    have e2 : ((n : Int) - 4).toNat = n - 4 := by omega
    by_cases hs : sealed body = bs
    all_goals
      first | rw [if_pos hs] | rw [if_neg hs]
      have hs1 : (!(sealed body == bs)) = !decide (sealed body = bs) := by rw [Bool.eq_iff_iff]; simp
      first | rw [decide_eq_true hs] at hs1 | rw [decide_eq_false hs] at hs1
      simp only [Bool.not_true, Bool.not_false] at hs1
      clear hs
      have hcv := run_str (w := w) hb 23 5 9 Tryd.underlying23 Tryd.underlying5 Tryd.underlying9 c
      have hcv1 := run_str (w := w.drew) hb 23 5 9 Tryd.underlying23 Tryd.underlying5 Tryd.underlying9 c
      go_enter Tryd.func22, Tryd.ntmps22
      go_wp2_with fail
      go_region_with (first | (go_at_call 20; refine (rseal_any _ _ _ body w.drew hbd.drew (by omega)).mono ?_; rintro e w1 ⟨A1, c1, rfl, hown1, hb1⟩; have hcv2 := run_str (hb.drew.below hb1) 23 5 9 Tryd.underlying23 Tryd.underlying5 Tryd.underlying9 c; have hcv3 := run_str hown1.bs 23 5 9 Tryd.underlying23 Tryd.underlying5 Tryd.underlying9 c1))
      all_goals
        go_wp2_with fail
        go_ret2
        have hbw : Below w.heap.size w w1 := ((Below.refl _ _).drew).trans hb1
        first
          | exact ⟨none, 0, rfl, El.nil _ _ _ _ _, hbw⟩
          | exact ⟨A, c, by simp [hlen], by rw [hlen]; exact held.below hbw, hbw⟩
set_option maxHeartbeats 1000000 in
theorem rtakeEl_any (A : Option Addr) (n c : Nat) (bs : List UInt8) (w : World) (lo : Nat) (hel : El w lo 5 (.slice A n c) bs) (hn : n ≤ 140737488355300) :
    Calls Tryd.prog 29 #[.slice A n c] w (RTakeEl lo w (ftake bs)) := by
  obtain ⟨hb, hc⟩ := hel.open_
  have hl := hb.1
  by_cases h6 : n < 6
  · have e : ftake bs = ([], 0, 11) := by
      have : flen bs = (0, 11) := by unfold flen; rw [if_pos (by omega)]
      unfold ftake; rw [this]; simp
    rw [e]
    go_enter Tryd.func29, Tryd.ntmps29
    go_wp2_with fail
    go_ret3
    exact ⟨none, 0, rfl, El.nil _ _ _ _ _, Below.refl _ _⟩
  · obtain ⟨b, off, rfl, _, _⟩ := hb.2 (by omega)
    have hb6 := hel.take (k := 6) (by omega)
    rcases opn_six bs (by omega) with ⟨x, y, ho, hx, hy⟩ | ho
    · have hx0 := x.toNat_lt
      have hy0 := y.toNat_lt
      obtain ⟨k, hkk⟩ : ∃ k, k = num2 x y := ⟨_, rfl⟩
      have hnum : (x.toNat : Int) * 256 + (y.toNat : Int) = (k : Int) := by rw [hkk]; unfold num2; omega
      have hk16 : k < 65536 := by rw [hkk]; exact num2_lt x y
      have hcode : flen bs = if 1400 < k then (0, 13) else (k, 0) := by unfold flen; rw [if_neg (by omega), ho, hkk]
      have w1 : IntKind.i64.wrap ((x.toNat : Int) * 256) = (x.toNat : Int) * 256 := IntWalk.i64_in _ (by omega)
      have w2 : IntKind.i64.wrap ((x.toNat : Int) * 256 + (y.toNat : Int)) = (k : Int) := by rw [hnum]; exact IntWalk.i64_in _ (by omega)
      have Hkk := Lib.hid hkk
      clear hkk
      by_cases hbig : 1400 < k
      · have e : ftake bs = ([], 0, 13) := by rw [if_pos hbig] at hcode; unfold ftake; rw [hcode]; simp
        rw [e]
        have Ho := Lib.hid ho
        clear ho hcode e hx hy
        go_enter Tryd.func29, Tryd.ntmps29
        go_wp2_with fail
        refine (ropenEl_any _ _ _ (bs.take 6) _ lo hb6 (by omega)).mono ?_
        rw [Ho.out]
        rintro e w1 ⟨A1, c1, rfl, hown1, hb1⟩
        obtain ⟨b1, off1, rfl, _, _⟩ := hown1.open_.1.2 (by simp)
        have hc0 := hown1.open_.1.cells 0 x rfl
        simp only [Nat.add_zero] at hc0
        have hc1 := hown1.open_.1.cells 1 y rfl
        go_wp2_with fail
        go_quiet (fail)
        go_wp2_with fail
        go_ret3
        exact ⟨none, 0, rfl, El.nil _ _ _ _ _, below_drewN hb1 _⟩
      · rw [if_neg hbig] at hcode
        by_cases hs : bs.length < k + 10
        · have e : ftake bs = ([], 0, 11) := by unfold ftake; rw [hcode]; simp [hs]
          rw [e]
          have hs1 : decide ((n : Int) < (k : Int) + 10) = true := by simp; omega
          have Ho := Lib.hid ho
          clear ho hcode e hx hy
          go_enter Tryd.func29, Tryd.ntmps29
          go_wp2_with fail
          refine (ropenEl_any _ _ _ (bs.take 6) _ lo hb6 (by omega)).mono ?_
          rw [Ho.out]
          rintro e w1 ⟨A1, c1, rfl, hown1, hb1⟩
          obtain ⟨b1, off1, rfl, _, _⟩ := hown1.open_.1.2 (by simp)
          have hc0 := hown1.open_.1.cells 0 x rfl
          simp only [Nat.add_zero] at hc0
          have hc1 := hown1.open_.1.cells 1 y rfl
          go_wp2_with fail
          go_quiet (fail)
          go_wp2_with fail
          go_ret3
          exact ⟨none, 0, rfl, El.nil _ _ _ _ _, below_drewN hb1 _⟩
        · have hs1 : decide ((n : Int) < (k : Int) + 10) = false := by simp; omega
          have hbd : El w lo 5 (.slice (some ⟨b, off + 6, none⟩) (k + 4) (c - 6)) ((bs.drop 6).take (k + 4)) := (hel.drop (k := 6) (c' := c - 6) (by omega) (by omega)).take (by omega)
          have i1 : ((k : Int) + 10).toNat = k + 10 := by omega
          have i2 : k + 10 - 6 = k + 4 := by omega
          have i3 : (6 : Int) ≤ (k : Int) + 10 := by omega
          have i4 : ((k : Int) + 10) ≤ (c : Int) := by omega
          have i5 : ¬ c = 6 := by omega
          have hft : ftake bs = if (opn ((bs.drop 6).take (k + 4))).2 ≠ 0 then ([], 0, (opn ((bs.drop 6).take (k + 4))).2) else ((opn ((bs.drop 6).take (k + 4))).1, k + 10, 0) := by
            unfold ftake; rw [hcode]; simp [hs]
          have h2 := opn_code ((bs.drop 6).take (k + 4)) (by simp; omega)
          have h2' : (∃ p, opn ((bs.drop 6).take (k + 4)) = (p, 0)) ∨ opn ((bs.drop 6).take (k + 4)) = ([], 14) := by
            rcases h2 with ⟨h1, _⟩ | h1
            · exact .inl ⟨_, by rw [← h1]⟩
            · exact .inr h1
          clear h2
          rcases h2' with ⟨p, hp⟩ | hp
          all_goals
            rw [hp] at hft
            simp only [ne_eq, not_true_eq_false, not_false_eq_true, reduceCtorEq, if_true, if_false] at hft
            rw [hft]
            have Ho := Lib.hid ho
            have Hp := Lib.hid hp
            clear ho hcode hp hft hx hy
            go_enter Tryd.func29, Tryd.ntmps29
            go_wp2_with fail
            refine (ropenEl_any _ _ _ (bs.take 6) _ lo hb6 (by omega)).mono ?_
            rw [Ho.out]
            rintro e w1 ⟨A1, c1, rfl, hown1, hb1⟩
            obtain ⟨b1, off1, rfl, _, _⟩ := hown1.open_.1.2 (by simp)
            have hc0 := hown1.open_.1.cells 0 x rfl
            simp only [Nat.add_zero] at hc0
            have hc1 := hown1.open_.1.cells 1 y rfl
            go_wp2_with fail
            go_quiet (fail)
            go_wp2_with fail
            refine (ropenEl_any _ _ _ ((bs.drop 6).take (k + 4)) _ lo ((hbd.below hb1).drewN _) (by omega)).mono ?_
            rw [Hp.out]
            rintro e w2 ⟨A2, c2, rfl, hown2, hb2⟩
            go_wp2_with fail
            go_ret3
            have hb12 : Below w.heap.size w w2 := (below_drewN hb1 _).trans (hb2.mono hb1.size)
            first
              | exact ⟨none, 0, rfl, El.nil _ _ _ _ _, hb12⟩
              | (refine ⟨A2, c2, ?_, hown2, hb12⟩
                 simp)
    · have e : ftake bs = ([], 0, 14) := by
        have : flen bs = (0, 14) := by unfold flen; rw [if_neg (by omega), ho]
        unfold ftake; rw [this]; simp
      rw [e]
      go_enter Tryd.func29, Tryd.ntmps29
      go_wp2_with fail
      refine (ropenEl_any _ _ _ (bs.take 6) _ lo hb6 (by omega)).mono ?_
      rw [ho]
      rintro e w1 ⟨A1, c1, rfl, hown1, hb1⟩
      go_wp2_with fail
      go_ret3
      exact ⟨none, 0, rfl, El.nil _ _ _ _ _, hb1⟩

end Go.Proofs.YtaaajmonabhdgaaDoor
