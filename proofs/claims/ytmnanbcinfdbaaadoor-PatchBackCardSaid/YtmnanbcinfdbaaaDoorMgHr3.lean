/- The walks of the document's block, Steps and Plain; conditions: none beyond their hypotheses. The walks of the document's Steps and Plain; conditions: none beyond their hypotheses. -/
import Derived.Test.YtmnanbcinfdbaaaDoorMgHr
set_option linter.unusedSimpArgs false
set_option linter.unusedVariables false
section
namespace Go.Proofs.YtmnanbcinfdbaaaDoor
open Go.RowKit Go.Proofs.U
set_option linter.unusedVariables false
def pickI (l : List Gr.Stp) (base : List UInt8) (s : Nat) (b : List UInt8) : Int := match pick l base s b with | some i => ((i * s : Nat) : Int) | none => -1
def firstI (base : List UInt8) (s : Nat) (b : List UInt8) : Int := match fst17 base s b (base.length / s) with | some i => ((i * s : Nat) : Int) | none => -1
theorem pickI_first {l : List Gr.Stp} {base : List UInt8} {s : Nat} {b : List UInt8} (h : (Has (base.length / s) (nxt l s) && (blkB base s (nxt l s).toNat == b)) = false) : pickI l base s b = firstI base s b := by
  unfold pickI firstI pick
  rw [if_neg (by rw [h]; simp)]
theorem pickI_next {l : List Gr.Stp} {base : List UInt8} {s : Nat} {b : List UInt8} {j : Nat} (hj : nxt l s = (j : Int)) (h : (Has (base.length / s) (nxt l s) && (blkB base s (nxt l s).toNat == b)) = true) : pickI l base s b = ((j * s : Nat) : Int) := by
  unfold pickI pick
  rw [if_pos h, hj]
  rfl
theorem Has_neg (n : Nat) : Has n (-1) = false := by unfold Has; rfl
theorem Has_big (n : Nat) : Has n (n : Int) = false := by unfold Has; simp
theorem Has_lt {n j : Nat} (h : j < n) : Has n (j : Int) = true := by unfold Has; simp [h]
section
variable (base0 n c : Nat) (w : World) (A : Option Addr) (l : List Gr.Stp) (Ab : Option Addr) (nb cb : Nat) (base : List UInt8) (s : Nat) (A' : Option Addr) (m' c' : Nat) (b : List UInt8)
set_option maxRecDepth 100000 in
set_option maxHeartbeats 4000000 in
theorem rblk_any (h : SO w base0 0 A n c l) (hok : Oks s nb l) (hb : BS w w.heap.size Ab nb base) (hcb : nb ≤ cb) (hnb : nb ≤ 4096) (hs : 4 ≤ s) (hs2 : s ≤ 64) (hb' : BS w w.heap.size A' m' b) (hn : n ≤ 1000000) :
    Calls Tryd.prog 84 #[.slice A n c, .slice Ab nb cb, .int .i64 (s : Int), .slice A' m' c'] w fun e w' => e = .returned (.int .i64 (pickI l base s b)) ∧ Drawn w w' := by
  have hbl := hb.1
  have hcp := hok.cps (by omega)
  have hrf := fun w' (hd : Drawn w w') => rfirst_any Ab nb cb s base w' ((hd.bs hb).more (hd.below w.heap.size).size) hcb (by omega) hs A' m' c' b ((hd.bs hb').more (hd.below w.heap.size).size)
  obtain ⟨R, hR⟩ : ∃ R, R = firstI base s b := ⟨_, rfl⟩
  have hfc : (∃ i : Nat, fstI base s b = (i : Int) ∧ R = ((i * s : Nat) : Int) ∧ i < nb / s) ∨ (fstI base s b = -1 ∧ R = -1) := by
    rw [hR]
    unfold firstI fstI
    rw [hbl]
    cases hf : fst17 base s b (nb / s) with
    | some i => exact .inl ⟨i, rfl, rfl, (fst17_has hf).1⟩
    | none => exact .inr ⟨rfl, rfl⟩
  have HFC := Lib.hid hfc
  have hpf : ∀ l, (Has (base.length / s) (nxt l s) && (blkB base s (nxt l s).toNat == b)) = false → pickI l base s b = R := fun l h => by rw [hR]; exact pickI_first h
  have HPF := Lib.hid hpf
  clear hfc hpf hR
  have hm3 : nb / s * s ≤ nb := Nat.div_mul_le_self nb s
  have HBL := Lib.hid (And.intro hbl hm3)
  clear hbl hm3
  rcases last_cases l with rfl | ⟨ini, x, rfl⟩
  · obtain rfl : n = 0 := by have := h.len; simpa using this.symm
    clear h hok hcp
    have HP := HPF.out [] (by rw [show nxt [] s = -1 from rfl, Has_neg]; rfl)
    rw [HP]
    clear HP
    rcases HFC.out with ⟨i, hi, rfl, hin⟩ | ⟨hi, rfl⟩
    · have hm1 : i * s ≤ nb / s * s := Nat.mul_le_mul_right s (by omega)
      have hm3 := HBL.out.2
      have hwm : IntKind.i64.wrap ((i : Int) * (s : Int)) = ((i * s : Nat) : Int) := by rw [show (i : Int) * (s : Int) = ((i * s : Nat) : Int) by simp]; exact wrap_nat_i64 (by omega)
      have hz : decide ((i : Int) < 0) = false := by simp
      have HRI := Lib.hid hi
      clear hm1 hm3 hi
      go_enter Tryd.func84, Tryd.ntmps84
      go_wp2_with fail
      refine (hrf _ (Drawn.refl w)).mono ?_
      rintro e w9 ⟨rfl, hd9⟩
      rw [HRI.out]
      go_wp2_with fail
      go_ret
      exact ⟨rfl, (Drawn.refl w).trans hd9⟩
    · have HRI := Lib.hid hi
      clear hi
      go_enter Tryd.func84, Tryd.ntmps84
      go_wp2_with fail
      refine (hrf _ (Drawn.refl w)).mono ?_
      rintro e w9 ⟨rfl, hd9⟩
      rw [HRI.out]
      go_wp2_with fail
      go_ret
      exact ⟨rfl, (Drawn.refl w).trans hd9⟩
  · obtain ⟨g, Al, cl, rfl, hn1, hnc, hgl, hgb, s0, s1, s2, s3, hfr, hdc, hdat⟩ := h.last_
    have hw1 : IntKind.i64.wrap ((n : Int) - 1) = (ini.length : Int) := by rw [IntKind.wrap_i64]; omega
    have hgt : ini.length < n := by omega
    clear hn1 hfr hdc hdat s3 h
    by_cases hk : x.k = 1
    · obtain ⟨j, hj, hE, hnx⟩ := nxt_end hok hk (by omega)
      have hm1 : j * s ≤ nb / s * s := Nat.mul_le_mul_right s hj
      have hm3 := HBL.out.2
      obtain ⟨E, hEE⟩ : ∃ E, E = j * s := ⟨_, rfl⟩
      rw [hk] at s0
      rw [← hEE] at hE
      have hw2 : IntKind.i64.wrap (x.f + x.l) = (E : Int) := by rw [hE]; exact wrap_nat_i64 (by omega)
      have hq1 : ((E : Nat) : Int).tdiv (s : Int) = (j : Int) := by rw [hEE, Int.natCast_mul, Int.mul_tdiv_cancel _ (by omega)]
      have hw3 : IntKind.i64.wrap (j : Int) = (j : Int) := wrap_nat_i64 (by have : j ≤ j * s := Nat.le_mul_of_pos_right j (by omega); omega)
      have z1 : decide ((s : Int) = 0) = false := by simp; omega
      have z2 : ((s : Int) == 0) = false := by simp; omega
      generalize x.f = xf at s1 hw2 hE
      generalize x.l = xl at s2 hw2 hE
      have HX := Lib.hid (And.intro hnx hEE)
      clear hE hk hm1 hm3 hnx hok hcp hEE
      by_cases hjl : j < nb / s
      · have hbk := fun w' (hd : Drawn w w') => rblock_any Ab nb cb s j base w' ((hd.bs hb).more (hd.below w.heap.size).size) hcb (by omega) hs hjl
        have hst := fun (w' : World) (hd : Drawn w w') => run_str (hd.bs hb') 22 5 9 Tryd.underlying22 Tryd.underlying5 Tryd.underlying9 c'
        have HST := Lib.hid hst
        clear hst
        cases hB : (blkB base s j == b)
        · have HP := HPF.out (ini ++ [x]) (by rw [HX.out.1, HBL.out.1, Int.toNat_natCast, hB]; simp)
          rw [HP]
          clear HP
          rcases HFC.out with ⟨i, hi, rfl, hin⟩ | ⟨hi, rfl⟩
          · have hm1 : i * s ≤ nb / s * s := Nat.mul_le_mul_right s (by omega)
            have hm3 := HBL.out.2
            have hwm : IntKind.i64.wrap ((i : Int) * (s : Int)) = ((i * s : Nat) : Int) := by rw [show (i : Int) * (s : Int) = ((i * s : Nat) : Int) by simp]; exact wrap_nat_i64 (by omega)
            have hz : decide ((i : Int) < 0) = false := by simp
            have HRI := Lib.hid hi
            clear hm1 hm3 hi
            go_enter Tryd.func84, Tryd.ntmps84
            go_wp2_with fail
            go_quiet (fail)
            go_wp2_with fail
            refine (hbk _ ⟨_, rfl⟩).mono ?_
            rintro e w5 ⟨⟨A5, c5, rfl, hc5, hbs5⟩, hd5⟩
            have hd5' : Drawn w w5 := Drawn.trans ⟨_, rfl⟩ hd5
            have h3 := run_str hbs5 22 5 9 Tryd.underlying22 Tryd.underlying5 Tryd.underlying9 c5
            have h5 := HST.out w5 hd5'
            go_wp2_with fail
            refine (hrf _ hd5').mono ?_
            rintro e w9 ⟨rfl, hd9⟩
            rw [HRI.out]
            go_wp2_with fail
            go_ret
            exact ⟨rfl, hd5'.trans hd9⟩
          · have HRI := Lib.hid hi
            clear hi
            go_enter Tryd.func84, Tryd.ntmps84
            go_wp2_with fail
            go_quiet (fail)
            go_wp2_with fail
            refine (hbk _ ⟨_, rfl⟩).mono ?_
            rintro e w5 ⟨⟨A5, c5, rfl, hc5, hbs5⟩, hd5⟩
            have hd5' : Drawn w w5 := Drawn.trans ⟨_, rfl⟩ hd5
            have h3 := run_str hbs5 22 5 9 Tryd.underlying22 Tryd.underlying5 Tryd.underlying9 c5
            have h5 := HST.out w5 hd5'
            go_wp2_with fail
            refine (hrf _ hd5').mono ?_
            rintro e w9 ⟨rfl, hd9⟩
            rw [HRI.out]
            go_wp2_with fail
            go_ret
            exact ⟨rfl, hd5'.trans hd9⟩
        · rw [pickI_next HX.out.1 (by rw [HX.out.1, HBL.out.1, Int.toNat_natCast, hB, Has_lt hjl]; rfl), ← HX.out.2]
          go_enter Tryd.func84, Tryd.ntmps84
          go_wp2_with fail
          go_quiet (fail)
          go_wp2_with fail
          refine (hbk _ ⟨_, rfl⟩).mono ?_
          rintro e w5 ⟨⟨A5, c5, rfl, hc5, hbs5⟩, hd5⟩
          have hd5' : Drawn w w5 := Drawn.trans ⟨_, rfl⟩ hd5
          have h3 := run_str hbs5 22 5 9 Tryd.underlying22 Tryd.underlying5 Tryd.underlying9 c5
          have h5 := HST.out w5 hd5'
          go_wp2_with fail
          go_ret
          exact ⟨rfl, hd5'⟩
      · have hbk := fun w' => rblockNo_any Ab nb cb s (j : Int) w' (by omega) hs (by rw [show j = nb / s by omega]; exact Has_big _)
        have HP := HPF.out (ini ++ [x]) (by rw [HX.out.1, HBL.out.1, show j = nb / s by omega, Has_big]; rfl)
        rw [HP]
        clear HP
        rcases HFC.out with ⟨i, hi, rfl, hin⟩ | ⟨hi, rfl⟩
        · have hm1 : i * s ≤ nb / s * s := Nat.mul_le_mul_right s (by omega)
          have hm3 := HBL.out.2
          have hwm : IntKind.i64.wrap ((i : Int) * (s : Int)) = ((i * s : Nat) : Int) := by rw [show (i : Int) * (s : Int) = ((i * s : Nat) : Int) by simp]; exact wrap_nat_i64 (by omega)
          have hz : decide ((i : Int) < 0) = false := by simp
          have HRI := Lib.hid hi
          clear hm1 hm3 hi
          go_enter Tryd.func84, Tryd.ntmps84
          go_wp2_with fail
          go_quiet (fail)
          go_wp2_with fail
          refine (hbk _).mono ?_
          rintro e w5 ⟨rfl, hd5⟩
          have hd5' : Drawn w w5 := Drawn.trans ⟨_, rfl⟩ hd5
          go_wp2_with fail
          refine (hrf _ hd5').mono ?_
          rintro e w9 ⟨rfl, hd9⟩
          rw [HRI.out]
          go_wp2_with fail
          go_ret
          exact ⟨rfl, hd5'.trans hd9⟩
        · have HRI := Lib.hid hi
          clear hi
          go_enter Tryd.func84, Tryd.ntmps84
          go_wp2_with fail
          go_quiet (fail)
          go_wp2_with fail
          refine (hbk _).mono ?_
          rintro e w5 ⟨rfl, hd5⟩
          have hd5' : Drawn w w5 := Drawn.trans ⟨_, rfl⟩ hd5
          go_wp2_with fail
          refine (hrf _ hd5').mono ?_
          rintro e w9 ⟨rfl, hd9⟩
          rw [HRI.out]
          go_wp2_with fail
          go_ret
          exact ⟨rfl, hd5'.trans hd9⟩
    · have hnx : nxt (ini ++ [x]) s = -1 := by
        unfold nxt
        rw [List.getLast?_concat]
        simp only
        rw [if_neg hk]
      have z1 : decide (x.k = 1) = false := by simpa using hk
      have z2 : (x.k == 1) = false := by simpa using hk
      have HX := Lib.hid hnx
      clear hnx hok hcp
      have HP := HPF.out (ini ++ [x]) (by rw [HX.out, Has_neg]; rfl)
      rw [HP]
      clear HP
      rcases HFC.out with ⟨i, hi, rfl, hin⟩ | ⟨hi, rfl⟩
      · have hm1 : i * s ≤ nb / s * s := Nat.mul_le_mul_right s (by omega)
        have hm3 := HBL.out.2
        have hwm : IntKind.i64.wrap ((i : Int) * (s : Int)) = ((i * s : Nat) : Int) := by rw [show (i : Int) * (s : Int) = ((i * s : Nat) : Int) by simp]; exact wrap_nat_i64 (by omega)
        have hz : decide ((i : Int) < 0) = false := by simp
        have HRI := Lib.hid hi
        clear hm1 hm3 hi
        go_enter Tryd.func84, Tryd.ntmps84
        go_wp2_with fail
        refine (hrf _ (Drawn.refl w)).mono ?_
        rintro e w9 ⟨rfl, hd9⟩
        rw [HRI.out]
        go_wp2_with fail
        go_ret
        exact ⟨rfl, (Drawn.refl w).trans hd9⟩
      · have HRI := Lib.hid hi
        clear hi
        go_enter Tryd.func84, Tryd.ntmps84
        go_wp2_with fail
        refine (hrf _ (Drawn.refl w)).mono ?_
        rintro e w9 ⟨rfl, hd9⟩
        rw [HRI.out]
        go_wp2_with fail
        go_ret
        exact ⟨rfl, (Drawn.refl w).trans hd9⟩
end
end Go.Proofs.YtmnanbcinfdbaaaDoor
end

section
namespace Go.Proofs.YtmnanbcinfdbaaaDoor
open Go.RowKit Go.Proofs.U
set_option linter.unusedVariables false
theorem huntS_tail {base data : List UInt8} {s F a : Nat} {l : List Gr.Stp} (h : a < data.length) (h2 : ¬ a + s ≤ data.length) : huntS base data s (F + 1) a l = huntS base data s F (a + 1) (tells l ((data.drop a).take 1)) := by
  rw [huntS, if_pos h, if_neg h2]
theorem one_at {data : List UInt8} {k : Nat} {ch : UInt8} (h : data[k]? = some ch) (l : List Gr.Stp) : tells l ((data.drop k).take 1) = tell l ch := by
  have : (data.drop k).take 1 = [ch] := by
    obtain ⟨hk, rfl⟩ := List.getElem?_eq_some_iff.1 h
    rw [List.drop_eq_getElem_cons hk]; rfl
  rw [this]; rfl
theorem tells_take {data : List UInt8} {k : Nat} {ch : UInt8} (h : data[k]? = some ch) (l : List Gr.Stp) : tells l (data.take (k + 1)) = tell (tells l (data.take k)) ch := by
  rw [List.take_add_one, h, tells_append]; rfl
theorem Lits.tells {l : List Gr.Stp} {bs : List UInt8} (h : Oks 1 0 l) : Lits (Go.Proofs.YtmnanbcinfdbaaaDoor.tells l bs) := h.tells.lits
set_option maxRecDepth 100000 in
set_option maxHeartbeats 4000000 in
theorem rplain_any (Ad : Option Addr) (m cd : Nat) (data : List UInt8) (w : World) (hb : BS w w.heap.size Ad m data) (hm : m ≤ 100000) :
    Calls Tryd.prog 50 #[.slice Ad m cd] w (LRet w (tells [] data)) := by
  have hdl := hb.1
  obtain ⟨R, hR⟩ : ∃ R, R = tells [] data := ⟨_, rfl⟩
  rw [← hR]
  have HR := Lib.hid (And.intro hR hdl)
  clear hR hdl
  go_enter Tryd.func50, Tryd.ntmps50
  go_wp2_with fail
  go_loopg [3, 4] m (fun r v i wr => ∃ k A n c l, r + k = m ∧ i = .int .i64 (k : Int) ∧ v = .slice A n c ∧ SO wr w.heap.size 0 A n c l ∧ l = tells [] (data.take k) ∧ l.length ≤ k ∧ Below w.heap.size w wr)
  case atStart => exact ⟨0, none, 0, 0, [], by omega, rfl, rfl, SO.nil _ _ _, rfl, Nat.le_refl _, Below.refl _ _⟩
  case round =>
    obtain ⟨k, A, n, c, l, hgk, rfl, rfl, hso, hl, hlk, hbw⟩ := hrel
    obtain ⟨wo, rfl⟩ : ∃ wo : World, wo = wr := ⟨_, rfl⟩
    have HL := Lib.hid (And.intro hl (And.intro hlk hgk))
    have hnl := hso.len
    by_cases hlt : k < m
    · obtain ⟨bd, od, rfl, hbdl, hcell⟩ := hb.2 (by omega)
      have hcd : (wo.cell? ⟨bd, od + k, none⟩) = some (.int .u8 ((data[k]'(by rw [HR.out.2]; exact hlt)).toNat : Int)) := (hbw.cell (p := ⟨bd, od + k, none⟩) hbdl).trans (hcell k _)
      have hch : data[k]? = some (data[k]'(by rw [HR.out.2]; exact hlt)) := List.getElem?_eq_getElem _
      generalize (data[k]'(by rw [HR.out.2]; exact hlt)) = ch at hcd hch
      have htd := rtold_any w.heap.size n c wo A l ch hso (by rw [hl]; exact Lits.tells (Oks.nil _ _)) (by omega)
      have hw1 : IntKind.i64.wrap ((k : Int) + 1) = ((k + 1 : Nat) : Int) := by rw [IntKind.wrap_i64]; omega
      have t1 : decide ((k : Int) < (m : Int)) = true := by simpa using hlt
      have HC := Lib.hid hch
      clear hl hlk hgk hcell hch hnl
      go_wp2_with fail
      refine htd.mono ?_
      rintro e w2 ⟨⟨A2, n2, c2, rfl, hc2, hso2⟩, hb2⟩
      go_wp2_with fail
      go_roundg (gk - 1)
      case measure => have := HL.out.2.2; omega
      case rel => exact ⟨k + 1, A2, n2, c2, tell l ch, by have := HL.out.2.2; omega, by go_num, rfl, hso2.mono hbw.size, by rw [tells_take HC.out, ← HL.out.1], by have := (tell_len l ch).2; have := HL.out.2.1; omega, hbw.trans (hb2.mono hbw.size)⟩
    · obtain rfl : k = m := by omega
      have t1 : decide ((k : Int) < (k : Int)) = false := by simp
      have hRl : l = R := by rw [hl, HR.out.1, List.take_of_length_le (by rw [HR.out.2]; exact Nat.le_refl _)]
      subst hRl
      clear hl hlk hgk hnl
      go_wp2_with fail
      go_ret
      exact ⟨⟨A, n, c, rfl, SO.cap hso, hso⟩, hbw⟩
set_option maxRecDepth 100000 in
set_option maxHeartbeats 8000000 in
theorem rsteps_any (Ab : Option Addr) (nb cb : Nat) (base : List UInt8) (s : Nat) (Ad : Option Addr) (m cd : Nat) (data : List UInt8) (w : World) (hbb : BS w w.heap.size Ab nb base) (hcb : nb ≤ cb) (hnb : nb ≤ 4096) (hs : 4 ≤ s) (hs2 : s ≤ 64)
    (hb : BS w w.heap.size Ad m data) (hc : m ≤ cd) (hm : m ≤ 100000) :
    Calls Tryd.prog 48 #[.slice Ab nb cb, .int .i64 (s : Int), .slice Ad m cd] w (LRet w (huntS base data s m 0 [])) := by
  have hdl := hb.1
  obtain ⟨R, hR⟩ : ∃ R, R = huntS base data s m 0 [] := ⟨_, rfl⟩
  rw [← hR]
  have HR := Lib.hid (And.intro hR (And.intro hdl hbb.1))
  clear hR hdl
  go_enter Tryd.func48, Tryd.ntmps48
  go_wp2_with fail
  go_loopg [7, 8] m (fun r v i wr => ∃ k A n c l F, r + k = m ∧ i = .int .i64 (k : Int) ∧ v = .slice A n c ∧ SO wr w.heap.size 0 A n c l ∧ huntS base data s F k l = R ∧ m ≤ k + F ∧ Oks s nb l ∧ l.length ≤ k ∧ Below w.heap.size w wr)
  case atStart => exact ⟨0, none, 0, 0, [], m, by omega, rfl, rfl, SO.nil _ _ _, HR.out.1.symm, by omega, Oks.nil _ _, Nat.le_refl _, Below.refl _ _⟩
  case round =>
    obtain ⟨k, A, n, c, l, F1, hgk, rfl, rfl, hso, hR1, hF, hok, hlk, hbw⟩ := hrel
    obtain ⟨wo, rfl⟩ : ∃ wo : World, wo = wr := ⟨_, rfl⟩
    have hnl := hso.len
    by_cases hlt : k < m
    · obtain ⟨F, rfl⟩ : ∃ F, F1 = F + 1 := ⟨F1 - 1, by omega⟩
      obtain ⟨bd, od, rfl, hbdl, hcell⟩ := hb.2 (by omega)
      have hcd : (wo.cell? ⟨bd, od + k, none⟩) = some (.int .u8 ((data[k]'(by rw [HR.out.2.1]; exact hlt)).toNat : Int)) := (hbw.cell (p := ⟨bd, od + k, none⟩) hbdl).trans (hcell k _)
      have hch : data[k]? = some (data[k]'(by rw [HR.out.2.1]; exact hlt)) := List.getElem?_eq_getElem _
      generalize (data[k]'(by rw [HR.out.2.1]; exact hlt)) = ch at hcd hch
      have htd := fun w' (h : SO w' w.heap.size 0 A n c l) => rtold_any w.heap.size n c w' A l ch h hok.lits (by omega)
      have hw1 : IntKind.i64.wrap ((k : Int) + 1) = ((k + 1 : Nat) : Int) := by rw [IntKind.wrap_i64]; omega
      have hw2 : IntKind.i64.wrap ((k : Int) + (s : Int)) = ((k + s : Nat) : Int) := by rw [IntKind.wrap_i64]; omega
      have t1 : decide ((k : Int) < (m : Int)) = true := by simpa using hlt
      have HC := Lib.hid (And.intro hch (And.intro hR1 (And.intro hF (And.intro hok (And.intro hlk hgk)))))
      have hlt1 : (tell l ch).length ≤ k + 1 := by have := (tell_len l ch).2; omega
      have hokt : Oks s nb (tell l ch) := hok.tell ch
      by_cases hks : k + s ≤ m
      · have t2 : decide (((k + s : Nat) : Int) ≤ (m : Int)) = true := by simp; omega
        have t3 : decide (k + s ≤ m) = true := by simpa using hks
        have hck : ¬ cd = k := by omega
        have hblk := rblk_any w.heap.size n c wo A l Ab nb cb base s (some ⟨bd, od + k, none⟩) s (cd - k) (inw data s k) hso hok ((hbb.below hbw).more hbw.size) hcb hnb hs hs2
          ((((hb.below hbw).drop (k := k) (by omega)).take (by omega)).more hbw.size) (by omega)
        clear hR1 hF hok hlk hgk hch hcell hnl
        cases hp : pick l base s (inw data s k) with
        | some i =>
          have hpi : pickI l base s (inw data s k) = ((i * s : Nat) : Int) := by unfold pickI; rw [hp]
          rw [hpi] at hblk
          have hi := (pick_has hp).1
          rw [HR.out.2.2] at hi
          have hR2 := huntS_copy (F := F) (by omega) (by rw [HR.out.2.1]; exact hks) hp
          have hcpy := fun w' (h : SO w' w.heap.size 0 A n c l) => rcopied_any w.heap.size n c w' A l ((i * s : Nat) : Int) (s : Int) h (HC.out.2.2.2.1.cps (by omega)) (by omega) (by omega) (by have := h.len; have := HC.out.2.2.2.2.1; omega)
          obtain ⟨E, hE⟩ : ∃ E, E = i * s := ⟨_, rfl⟩
          have hlc := copy_len l ((E : Nat) : Int) (s : Int)
          have hokc := HC.out.2.2.2.1.copy hi (by omega)
          rw [← hE] at hblk hR2 hcpy hokc
          have z1 : decide ((0 : Int) ≤ (E : Int)) = true := by simp
          have H2 := Lib.hid (And.intro hR2 (And.intro hlc hokc))
          clear hp hpi hi hR2 hlc hokc hE
          go_wp2_with fail
          refine hblk.mono ?_
          rintro e w2 ⟨rfl, q, rfl⟩
          have hcp := hcpy (wo.drewN q) hso
          clear hblk hcpy htd
          go_wp2_with fail
          refine hcp.mono ?_
          rintro e w2 ⟨⟨A2, n2, c2, rfl, hc2, hso2⟩, hb2⟩
          have hbz : Below w.heap.size w (wo.drewN q) := hbw.trans (below_drewN (Below.refl _ _) q)
          go_wp2_with fail
          go_roundg (gk - s)
          case measure => have := HC.out.2.2.2.2.2; omega
          case rel => exact ⟨k + s, A2, n2, c2, copyS l (E : Int) (s : Int), F, by have := HC.out.2.2.2.2.2; omega, by go_num, rfl, hso2.mono hbw.size, by rw [← H2.out.1]; exact HC.out.2.1, by have := HC.out.2.2.1; omega, H2.out.2.2, by have := H2.out.2.1; have := HC.out.2.2.2.2.1; omega, hbz.trans (hb2.mono hbz.size)⟩
        | none =>
          have hpi : pickI l base s (inw data s k) = -1 := by unfold pickI; rw [hp]
          rw [hpi] at hblk
          have hR2 := huntS_tell (F := F) (by rw [HR.out.2.1]; exact hks) (by omega) hp
          rw [one_at HC.out.1] at hR2
          have H2 := Lib.hid hR2
          clear hp hpi hR2
          go_wp2_with fail
          refine hblk.mono ?_
          rintro e w2 ⟨rfl, q, rfl⟩
          have hcd2 : (wo.drewN q).cell? ⟨bd, od + k, none⟩ = some (.int .u8 (ch.toNat : Int)) := hcd
          have htd2 := htd (wo.drewN q) hso
          clear hblk htd
          go_wp2_with fail
          refine htd2.mono ?_
          rintro e w2 ⟨⟨A2, n2, c2, rfl, hc2, hso2⟩, hb2⟩
          have hbz : Below w.heap.size w (wo.drewN q) := hbw.trans (below_drewN (Below.refl _ _) q)
          go_wp2_with fail
          go_roundg (gk - 1)
          case measure => have := HC.out.2.2.2.2.2; omega
          case rel => exact ⟨k + 1, A2, n2, c2, tell l ch, F, by have := HC.out.2.2.2.2.2; omega, by go_num, rfl, hso2.mono hbw.size, by rw [← H2.out]; exact HC.out.2.1, by have := HC.out.2.2.1; omega, hokt, hlt1, hbz.trans (hb2.mono hbz.size)⟩
      · have t2 : decide (((k + s : Nat) : Int) ≤ (m : Int)) = false := by simp; omega
        have t3 : decide (k + s ≤ m) = false := by simpa using hks
        have hR2 := huntS_tail (base := base) (s := s) (F := F) (l := l) (show k < data.length by rw [HR.out.2.1]; exact hlt) (by rw [HR.out.2.1]; exact hks)
        rw [one_at HC.out.1] at hR2
        have H2 := Lib.hid hR2
        have htd2 := htd wo hso
        clear hR1 hF hok hlk hgk hch hcell hnl hR2 htd
        go_wp2_with fail
        refine htd2.mono ?_
        rintro e w2 ⟨⟨A2, n2, c2, rfl, hc2, hso2⟩, hb2⟩
        go_wp2_with fail
        go_roundg (gk - 1)
        case measure => have := HC.out.2.2.2.2.2; omega
        case rel => exact ⟨k + 1, A2, n2, c2, tell l ch, F, by have := HC.out.2.2.2.2.2; omega, by go_num, rfl, hso2.mono hbw.size, by rw [← H2.out]; exact HC.out.2.1, by have := HC.out.2.2.1; omega, hokt, hlt1, hbw.trans (hb2.mono hbw.size)⟩
    · obtain rfl : k = m := by omega
      have t1 : decide ((k : Int) < (k : Int)) = false := by simp
      have hRl : l = R := by rw [← hR1, huntS_end (by rw [HR.out.2.1]; exact Nat.le_refl _)]
      subst hRl
      clear hR1 hlk hgk hnl hF
      go_wp2_with fail
      go_ret
      exact ⟨⟨A, n, c, rfl, SO.cap hso, hso⟩, hbw⟩
end Go.Proofs.YtmnanbcinfdbaaaDoor
end
