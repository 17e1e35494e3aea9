/- SignTells; conditions: none beyond its hypotheses. -/
import Derived.Test.YtmnanbcinfdbaaaDoorSg9
import Derived.Test.YtmnanbcinfdbaaaDoorSg7
import Derived.Test.YtmnanbcinfdbaaaDoorLaw17
namespace Go.Proofs.YtmnanbcinfdbaaaDoor
open Go.RowKit Go.Proofs.U
set_option linter.unusedVariables false
theorem beq_drop1 (b : List UInt8) (h : 1 ≤ b.length) : (b == b.drop 1) = false := by
  rcases hq : (b == b.drop 1) with _ | _
  · rfl
  · rw [beq_iff_eq] at hq
    have := congrArg List.length hq
    rw [List.length_drop] at this
    omega
set_option maxRecDepth 100000 in
set_option maxHeartbeats 8000000 in
theorem signTells_any (A : Option Addr) (n c : Nat) (base : List UInt8) (x i : Int) (w : World) (hb : BS w w.heap.size A n base) (hm : n ≤ maxLen) (hc : n ≤ c) (hT : Tabs w) :
    Calls Tryd.prog 8 #[.slice A n c, .int .i64 x, .int .i64 i] w (Yes w) := by
  have h50 := fun h : 5000 < n => (by simp; omega : decide (5000 < (n : Int)) = true)
  by_cases h5 : 5000 < n
  · have t1 : decide (5000 < (n : Int)) = true := by simp; omega
    clear hc
    go_enter Tryd.func8, Tryd.ntmps8
    go_wp2_with fail
    refine (lives17 w hT).mono ?_
    rintro e w1 ⟨rfl, hb1⟩
    go_wp2_with fail
    go_ret
    exact ⟨rfl, hb1⟩
  have t1 : decide (5000 < (n : Int)) = false := by simp; omega
  have t1' : decide (5000 < n) = false := by simp; omega
  clear h50
  by_cases hx : x < 4 ∨ 64 < x
  · have ho := ofArg_any (.slice A n c) x w hx
    rcases Int.lt_or_le x 4 with h4 | h4
    · have t2 : decide (x < 4) = true := by simpa using h4
      clear hx h4 h5
      go_enter Tryd.func8, Tryd.ntmps8
      go_wp2_with fail
      refine ho.mono ?_
      rintro e w1 ⟨rfl, rfl⟩
      go_wp2_with fail
      refine (lives17 w hT).mono ?_
      rintro e w1 ⟨rfl, hb1⟩
      go_wp2_with fail
      go_ret
      exact ⟨rfl, hb1⟩
    · have t2 : decide (x < 4) = false := by simpa using h4
      have t3 : decide (64 < x) = true := by simp; omega
      clear hx h4 h5
      go_enter Tryd.func8, Tryd.ntmps8
      go_wp2_with fail
      refine ho.mono ?_
      rintro e w1 ⟨rfl, rfl⟩
      go_wp2_with fail
      refine (lives17 w hT).mono ?_
      rintro e w1 ⟨rfl, hb1⟩
      go_wp2_with fail
      go_ret
      exact ⟨rfl, hb1⟩
  obtain ⟨s, rfl, hs, hs2⟩ : ∃ s : Nat, x = (s : Int) ∧ 4 ≤ s ∧ s ≤ 64 := ⟨x.toNat, by omega, by omega, by omega⟩
  have t2 : decide ((s : Int) < 4) = false := by simp; omega
  have t3 : decide (64 < (s : Int)) = false := by simp; omega
  have t2' : decide (s < 4) = false := by simp; omega
  have t3' : decide (64 < s) = false := by simp; omega
  by_cases h6 : 4096 < n
  · have ho := ofLong_any A n c s w (by omega) (by omega) h6 hm
    have t4 : decide (4096 < (n : Int)) = true := by simp; omega
    have t4' : decide (4096 < n) = true := by simp; omega
    clear hx h6 h5
    go_enter Tryd.func8, Tryd.ntmps8
    go_wp2_with fail
    refine ho.mono ?_
    rintro e w1 ⟨rfl, rfl⟩
    go_wp2_with fail
    refine (lives17 w hT).mono ?_
    rintro e w1 ⟨rfl, hb1⟩
    go_wp2_with fail
    go_ret
    exact ⟨rfl, hb1⟩
  have t4 : decide (4096 < (n : Int)) = false := by simp; omega
  have t4' : decide (4096 < n) = false := by simp; omega
  have hn4 : n ≤ 4096 := by omega
  have q1 : ((n : Int)).tdiv (s : Int) = ((n / s : Nat) : Int) := by simp [Int.tdiv_eq_ediv]
  obtain ⟨N, hN⟩ : ∃ N, N = n / s := ⟨_, rfl⟩
  have hN2 : N ≤ n := by rw [hN]; exact Nat.div_le_self _ _
  have w3 : IntKind.i64.wrap (N : Int) = (N : Int) := wrap_nat_i64 (by omega)
  rw [← hN] at q1
  have HN := Lib.hid hN
  have HT := Lib.hid hT
  clear hN h5 h6 hx
  go_enter Tryd.func8, Tryd.ntmps8
  go_wp2_with fail
  refine (of_any A n c s base w hb hc hn4 hs hs2 hT).mono ?_
  rintro e w1 ⟨rfl, htab, hb1⟩
  have htt := Tt.of hb hc hn4 hs hs2 htab hb1
  have HB := Lib.hid (And.intro hb1 htt)
  have sz : ∀ k, Calls Tryd.prog 34 #[.pointer (some ⟨w.heap.size + 1, 0, none⟩)] (w1.drewN k) fun e w' => e = .returned (.int .i64 (s : Int)) ∧ ∃ m, w' = w1.drewN m := fun k =>
    (size_any _ _ _ _ n c base s _ (htt.stay (below_drewN (Below.refl _ _) k))).mono fun e w' h => ⟨h.1, k, h.2.symm⟩
  have ln : ∀ k, Calls Tryd.prog 35 #[.pointer (some ⟨w.heap.size + 1, 0, none⟩)] (w1.drewN k) fun e w' => e = .returned (.int .i64 (N : Int)) ∧ ∃ m, w' = w1.drewN m := fun k => by
    rw [HN.out]
    exact (len_any _ _ _ _ n c base s _ (htt.stay (below_drewN (Below.refl _ _) k))).mono fun e w' h => ⟨h.1, k, h.2.symm⟩
  generalize hNN : w.heap.size + 1 = G at sz ln htt ⊢
  clear htab
  go_wp2_with fail

  go_quiet ((first | (go_at_call 34; with_reducible exact sz _) | (go_at_call 35; with_reducible exact ln _)))
  have hbq : ∀ q, Below w1.heap.size w1 (w1.drewN q) := fun q => below_drewN (Below.refl _ _) q
  clear sz ln
  have htb := htt.bs
  have hbG : w.heap.size ≤ w1.heap.size := hb1.size
  clear hb1 hNN hb
  cases hH : Has (n / s) i
  · have hbn := rblockNo_any A n c s i (w1.drewN nq) (by omega) hs hH
    have ks := fun w (h : Below w1.heap.size w1 w) => strongNo_any _ _ _ _ n c base s w (htt.stay h) i hH
    have kw := fun w (h : Below w1.heap.size w1 w) => weak_any _ _ _ _ n c base s w (htt.stay h) i
    have kb := fun w (h : Below w1.heap.size w1 w) => block_any _ _ _ _ n c base s w (htt.stay h) i
    have ki := fun w (h : Below w1.heap.size w1 w) => is_any _ _ _ _ n c base s w (htt.stay h) i
    rw [hH] at kw kb ki
    simp only [Bool.false_eq_true, if_false, Bool.false_and] at kw kb ki
    obtain ⟨ZZ, hZZ⟩ : ∃ ZZ, ZZ = (Z32.map bv).toArray := ⟨_, rfl⟩
    have ke : ∀ w, (Op.equalIn 10000 25 (.agg ZZ) (.agg #[.int .u8 0, .int .u8 0, .int .u8 0, .int .u8 0, .int .u8 0, .int .u8 0, .int .u8 0, .int .u8 0, .int .u8 0, .int .u8 0, .int .u8 0, .int .u8 0, .int .u8 0, .int .u8 0, .int .u8 0, .int .u8 0, .int .u8 0, .int .u8 0, .int .u8 0, .int .u8 0, .int .u8 0, .int .u8 0, .int .u8 0, .int .u8 0, .int .u8 0, .int .u8 0, .int .u8 0, .int .u8 0, .int .u8 0, .int .u8 0, .int .u8 0, .int .u8 0])).run Tryd.prog w = .ok true w := fun w => by rw [hZZ]; exact zero_eq w
    rw [← hZZ] at ks
    have KK := Lib.hid (And.intro ks (And.intro kw (And.intro kb ki)))
    clear hZZ hH ks kw kb ki
    go_wp2_with fail
    refine hbn.mono ?_
    rintro e w2 ⟨rfl, hd2⟩
    have hb2 : Below w1.heap.size w1 w2 := (hbq nq).trans (hd2.below _)
    clear hbn hd2
    go_wp2_with fail
    refine (KK.out.2.1 w2 hb2).mono ?_
    rintro e w' ⟨rfl, rfl⟩
    go_wp2_with fail
    refine (KK.out.1 w2 hb2).mono ?_
    rintro e w3 ⟨rfl, hb3⟩
    have hb3' := hb2.trans (hb3.mono hb2.size)
    go_wp2_with fail
    refine (KK.out.2.2.1 w3 hb3').mono ?_
    rintro e w4 ⟨⟨A4, n4, c4, rfl, hbs4⟩, hb4⟩
    obtain rfl : n4 = 0 := by have := hbs4.1; simpa using this.symm
    have hb4' := hb3'.trans (hb4.mono hb3'.size)
    go_wp2_with fail
    refine (KK.out.2.2.2 w4 hb4' none 0 0 [] 0 (BS.nil _ _ _) (Nat.zero_le _)).mono ?_
    rintro e w5 ⟨rfl, hb5⟩
    have hb5' := hb4'.trans (hb5.mono hb4'.size)
    go_wp2_with fail
    refine (KK.out.2.2.2 w5 hb5' A n c base w1.heap.size (htb.below hb5') hb5'.size).mono ?_
    rintro e w6 ⟨rfl, hb6⟩
    have hb6' := hb5'.trans (hb6.mono hb5'.size)
    go_wp2_with fail
    refine (lives17 w6 (hT.stay (HB.out.1.trans (hb6'.mono hbG)))).mono ?_
    rintro e w7 ⟨rfl, hb7⟩
    go_wp2_with fail
    go_ret
    exact ⟨rfl, HB.out.1.trans ((hb6'.trans (hb7.mono hb6'.size)).mono hbG)⟩
  · obtain ⟨k, rfl, hk⟩ := Has_nat hH
    have hbn := rblock_any A n c s k base (w1.drewN nq) htb hc (by omega) hs hk
    have ks := fun w (h : Below w1.heap.size w1 w) => strongYes_any _ _ _ _ n c base s w (htt.stay h) k hH
    have kw := fun w (h : Below w1.heap.size w1 w) => weak_any _ _ _ _ n c base s w (htt.stay h) k
    have kb := fun w (h : Below w1.heap.size w1 w) => block_any _ _ _ _ n c base s w (htt.stay h) k
    have ki := fun w (h : Below w1.heap.size w1 w) => is_any _ _ _ _ n c base s w (htt.stay h) k
    rw [hH] at kw kb ki
    simp only [if_true, Bool.true_and, Int.toNat_natCast] at ks kw kb ki
    have hbl := blk_len base s k (by rw [htb.1]; exact hk)
    unfold wk at kw
    generalize blkB base s k = bs at hbn ks kw kb ki hbl
    obtain ⟨X, hX⟩ : ∃ X, X = rsum bs := ⟨_, rfl⟩
    rw [← hX] at kw
    obtain ⟨DD, hDD⟩ : ∃ DD, DD = ((Sh.dig bs).map bv).toArray := ⟨_, rfl⟩
    have ke : ∀ w, (Op.equalIn 10000 25 (.agg DD) (.agg DD)).run Tryd.prog w = .ok true w := fun w => by rw [hDD, dig_eq2, BEq.rfl]
    rw [← hDD] at ks
    have KK := Lib.hid (And.intro ks (And.intro kw (And.intro kb ki)))
    have HX := Lib.hid (And.intro hX (And.intro hDD hbl))
    clear hX hDD hH ks kw kb ki hbl
    go_wp2_with fail
    refine hbn.mono ?_
    rintro e w2 ⟨⟨A2, c2, rfl, hc2, hbs2⟩, hd2⟩
    have hb2 : Below w1.heap.size w1 w2 := (hbq nq).trans (hd2.below _)
    have hbs2' : BS w2 w1.heap.size A2 s bs := hbs2
    clear hbn hd2 hbs2
    go_wp2_with fail
    refine (KK.out.2.1 w2 hb2).mono ?_
    rintro e w' ⟨rfl, rfl⟩
    go_wp2_with fail
    refine (rrsum_any A2 s c2 bs w2 _ hbs2' (by omega)).mono ?_
    rintro e w' ⟨rfl, rfl⟩
    rw [← HX.out.1]
    go_wp2_with fail
    refine (KK.out.1 w2 hb2).mono ?_
    rintro e w3 ⟨rfl, hb3⟩
    have hb3' := hb2.trans (hb3.mono hb2.size)
    have hbs3 := hbs2'.below (hb3.mono hb2.size)
    go_wp2_with fail
    refine (sumP_any A2 s c2 bs w3 (hbs3.more hb3'.size) hc2 (by omega) (hT.stay (HB.out.1.trans (hb3'.mono hbG)))).mono ?_
    rintro e w4 ⟨rfl, hb4⟩
    rw [← HX.out.2.1]
    have hb4' := hb3'.trans (hb4.mono hb3'.size)
    have hbs4 := hbs3.below (hb4.mono hb3'.size)
    go_wp2_with fail
    refine (KK.out.2.2.1 w4 hb4').mono ?_
    rintro e w5 ⟨⟨A5, n5, c5, rfl, hbs5⟩, hb5⟩
    have hb5' := hb4'.trans (hb5.mono hb4'.size)
    have hbs5' := hbs4.below (hb5.mono hb4'.size)
    go_wp2_with fail
    refine (same_any A5 n5 c5 bs A2 s c2 bs w5 _ _ hbs5 hbs5').mono ?_
    rintro e w' ⟨rfl, rfl⟩
    rw [BEq.rfl]
    go_wp2_with fail
    refine (KK.out.2.2.2 w5 hb5' A2 s c2 bs w1.heap.size hbs5' hb5'.size).mono ?_
    rintro e w6 ⟨rfl, hb6⟩
    rw [BEq.rfl]
    have hb6' := hb5'.trans (hb6.mono hb5'.size)
    have hbs6 := hbs5'.below (hb6.mono hb5'.size)
    obtain ⟨b2, o2, rfl, _⟩ := hbs6.2 (by omega)
    have h1c : 1 ≤ c2 := by omega
    go_wp2_with fail
    refine (KK.out.2.2.2 w6 hb6' (some ⟨b2, o2 + 1, none⟩) (s - 1) (c2 - 1) (bs.drop 1) w1.heap.size (hbs6.drop (k := 1) (by omega)) hb6'.size).mono ?_
    rintro e w7 ⟨rfl, hb7⟩
    rw [beq_drop1 _ (by have := HX.out.2.2; omega)]
    have hb7' := hb6'.trans (hb7.mono hb6'.size)
    go_wp2_with fail
    refine (lives17 w7 (hT.stay (HB.out.1.trans (hb7'.mono hbG)))).mono ?_
    rintro e w8 ⟨rfl, hb8⟩
    go_wp2_with fail
    go_ret
    exact ⟨rfl, HB.out.1.trans ((hb7'.trans (hb8.mono hb7'.size)).mono hbG)⟩
end Go.Proofs.YtmnanbcinfdbaaaDoor
