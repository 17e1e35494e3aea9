/- HuntExact; conditions: none beyond its hypotheses. -/
import Derived.Test.YtmnanbcinfdbaaaDoorMgH18
import Derived.Test.YtmnanbcinfdbaaaDoorMgLaw18b
set_option linter.unusedSimpArgs false
set_option linter.unusedVariables false
section
namespace Go.Proofs.YtmnanbcinfdbaaaDoor
open Go.RowKit Go.Proofs.U
set_option linter.unusedVariables false
theorem outL_take (base : List UInt8) (l : List Gr.Stp) (k : Nat) (x : Gr.Stp) (h : l[k]? = some x) : outL base (l.take (k + 1)) = outL base (l.take k) ++ outS base x := by
  rw [List.take_add_one, h, outL_append]
  simp [outL]
theorem outL_le (base : List UInt8) (l : List Gr.Stp) (k : Nat) : (outL base (l.take k)).length ≤ (outL base l).length := by
  conv => rhs; rw [← List.take_append_drop k l, outL_append]
  simp
set_option maxRecDepth 100000 in
set_option maxHeartbeats 8000000 in
theorem huntExact_any (A : Option Addr) (n c : Nat) (base : List UInt8) (x : Int) (A' : Option Addr) (m c' : Nat) (data : List UInt8) (w : World) (hb : BS w w.heap.size A n base) (hm : n ≤ maxLen) (hc : n ≤ c)
    (hb' : BS w w.heap.size A' m data) (hm' : m ≤ maxLen) (hc' : m ≤ c') (hT : Tabs w) :
    Calls Tryd.prog 10 #[.slice A n c, .int .i64 x, .slice A' m c'] w (Yes w) := by
  by_cases hsm : n ≤ 4096 ∧ m ≤ 3000 ∧ 4 ≤ x ∧ x ≤ 64
  · obtain ⟨hn4, hm5, hx4, hx6⟩ := hsm
    obtain ⟨s, rfl⟩ : ∃ s : Nat, x = (s : Int) := ⟨x.toNat, by omega⟩
    have hs : 4 ≤ s := by omega
    have hs2 : s ≤ 64 := by omega
    have u1 : decide (4096 < (n : Int)) = false := by simp; omega
    have u2 : decide (3000 < (m : Int)) = false := by simp; omega
    have u3 : decide ((s : Int) < 4) = false := by simp; omega
    have u4 : decide (64 < (s : Int)) = false := by simp; omega
    have v1 : decide (4096 < n) = false := by simp; omega
    have v2 : decide (3000 < m) = false := by simp; omega
    have v3 : decide (s < 4) = false := by simp; omega
    have v4 : decide (64 < s) = false := by simp; omega
    have HBL := Lib.hid (And.intro hb.1 hb'.1)
    clear hx4 hx6
    have hout := outL_hunt (base := base) (data := data) (s := s) (by omega) (F := m) (a := 0) (l := []) (Oks.nil _ _) rfl (by rw [hb'.1]; omega)
    have hokL : Oks s base.length (huntS base data s m 0 []) := Oks.hunt (by omega) (Oks.nil _ _)
    have hlL := hunt_len (base := base) (data := data) (s := s) (F := m) (a := 0) (l := [])
    simp only [List.length_nil] at hlL
    have hcct := len_all hokL
    rw [hout, hb'.1] at hcct
    obtain ⟨L, hL⟩ : ∃ L, L = huntS base data s m 0 [] := ⟨_, rfl⟩
    rw [← hL] at hout hokL hlL hcct
    rw [hb.1] at hokL
    have HH := Lib.hid (And.intro hout (And.intro hokL (And.intro hlL (And.intro hcct hL))))
    clear hout hokL hlL hcct hL
    go_enter Tryd.func10, Tryd.ntmps10
    go_wp2_with fail
    refine (of_any A n c s base w hb hc (by omega) hs hs2 hT).mono ?_
    rintro e w1 ⟨rfl, htab, hb1⟩
    have htt := Tt.of hb hc (by omega) hs hs2 htab hb1
    have hbG := hb1.size
    have hbb := hb.below hb1
    have hbd := hb'.below hb1
    have HB := Lib.hid hb1
    generalize w.heap.size + 1 = G at htt ⊢
    clear htab hb1 hb hb'
    go_wp2_with fail
    refine (hsteps_any G _ _ _ n c base s A' m c' data w1 htt (hT.stay HB.out) (hbd.more hbG) hc' (by omega)).mono ?_
    rintro e w2 ⟨⟨A2, n2, c2, rfl, hc2, hso2⟩, hb2⟩
    rw [← HH.out.2.2.2.2] at hso2
    have hn2 : n2 ≤ 5000 := by have := hso2.len; have := HH.out.2.2.1; omega
    have hbw2 := HB.out.trans (hb2.mono hbG)
    have hsp2 := hso2.sp
    have hbb2 := hbb.below (hb2.mono hbG)
    have hbd2 := hbd.below (hb2.mono hbG)
    have hz2 := hbw2.size
    obtain ⟨hzS, _⟩ := Go.zero_of_info zeroS'
    have HSL := Lib.hid hsp2.1
    clear hso2 hb2 htt hbb hbd hbG
    go_wp2_with fail
    go_loopg [9, 45] n2 (fun r g i wr => ∃ k Ag ng cg, r + k = n2 ∧ i = .int .i64 (k : Int) ∧ g = .slice Ag ng cg ∧ U.Own wr w2.heap.size 5 Ag ng cg (outL base (L.take k)) ∧ Below w2.heap.size w2 wr)
    case atStart => exact ⟨0, none, 0, 0, by omega, rfl, rfl, by rw [List.take_zero]; exact U.Own.nil _ _ _, Below.refl _ _⟩
    case round =>
      obtain ⟨k, Ag, ng, cg, hgk, rfl, rfl, hown, hbw⟩ := hrel
      have HGK := Lib.hid hgk
      obtain ⟨wo, rfl⟩ : ∃ wo : World, wo = wr := ⟨_, rfl⟩
      have hol := outL_le base L k
      rw [HH.out.1, HBL.out.2] at hol
      have hng := hown.len
      by_cases hlt : k < n2
      · clear hgk
        obtain ⟨b, off, x, A1, c1, rfl, hbl, hx, s0, s1, s2, s3, hcd, hbs⟩ := hsp2.at_ hlt
        replace s0 := (hbw.cell (p := ⟨b, _, none⟩) hbl).trans s0
        replace s1 := (hbw.cell (p := ⟨b, _, none⟩) hbl).trans s1
        replace s2 := (hbw.cell (p := ⟨b, _, none⟩) hbl).trans s2
        replace s3 := (hbw.cell (p := ⟨b, _, none⟩) hbl).trans s3
        have htk := outL_take base L k x hx
        have hox := HH.out.2.1 x (List.mem_of_getElem? hx)
        have t1 : decide ((k : Int) < (n2 : Int)) = true := by simpa using hlt
        have hq5 : ng ≤ 3000 := by omega
        have HO := Lib.hid (And.intro htk hng)
        clear htk hx hol hng
        have hzw := hbw.size
        rcases hox with ⟨a, bk, rfl, ha1, ha2⟩ | ⟨d, rfl, hd1, hd2⟩
        · simp only at s0 s1 s2 s3
          have hm1 : (a + bk) * s ≤ n / s * s := Nat.mul_le_mul_right s ha2
          have hm3 : n / s * s ≤ n := Nat.div_mul_le_self n s
          have hm4 : 1 * s ≤ bk * s := Nat.mul_le_mul_right s ha1
          rw [Nat.add_mul] at hm1
          have hos : outS base ⟨1, ((a * s : Nat) : Int), ((bk * s : Nat) : Int), []⟩ = (base.drop (a * s)).take (bk * s) := by unfold outS; rw [if_pos rfl]; rfl
          generalize a * s = F at s1 hm1 hos HO
          generalize bk * s = Ln at s2 hm1 hm4 hos HO
          obtain ⟨bb, bo, rfl, _⟩ := hbb2.2 (by omega)
          have y1 : decide ((F : Int) < 0) = false := by simp
          have y2 : decide ((Ln : Int) < 1) = false := by simp; omega
          have y3 : decide ((n : Int) < (F : Int)) = false := by simp; omega
          have hw1 : IntKind.i64.wrap ((n : Int) - (F : Int)) = (n : Int) - (F : Int) := by rw [IntKind.wrap_i64]; omega
          have y4 : decide ((n : Int) - (F : Int) < (Ln : Int)) = false := by simp; omega
          have hw2 : IntKind.i64.wrap ((F : Int) + (Ln : Int)) = ((F + Ln : Nat) : Int) := by rw [IntKind.wrap_i64]; omega
          have y5 : decide (n < F) = false := by simp; omega
          have y6 : decide (Ln < 1) = false := by simp; omega
          have hck : ¬ c = F := by omega
          have hF1 : F + Ln ≤ n := by omega
          have hF2 : F + Ln ≤ c := by omega
          have hal : Below wo.heap.size wo (wo.alloc (.cells #[.int .i64 1, .int .i64 (F : Int), .int .i64 (Ln : Int), .slice A1 0 c1] 68)) := (Below.refl _ _).alloc (Nat.le_refl _) _
          have hbsl : BS (wo.alloc (.cells #[.int .i64 1, .int .i64 (F : Int), .int .i64 (Ln : Int), .slice A1 0 c1] 68)) w1.heap.size (some ⟨bb, bo + F, none⟩) Ln ((base.drop F).take Ln) := ((((hbb2.below (hbw.mono hz2)).below (hal.mono (Nat.le_trans hz2 hzw))).drop (k := F) (by omega)).take (by omega)).more HB.out.size
          have hsub : F + Ln - F = Ln := Nat.add_sub_cancel_left _ _
          replace hbsl : BS (wo.alloc (.cells #[.int .i64 1, .int .i64 (F : Int), .int .i64 (Ln : Int), .slice A1 0 c1] 68)) w1.heap.size (some ⟨bb, bo + F, none⟩) (F + Ln - F) ((base.drop F).take Ln) := by rw [hsub]; exact hbsl
          have hlen5 : ng + (F + Ln - F) ≤ 140737488355328 := by omega
          have HSB := Lib.hid hsub
          clear hsub
          have HA := Lib.hid (And.intro hal (And.intro hos (Nat.le_trans hzw hal.size)))
          clear hos hal hm1 hm3 ha2
          simp only [List.length_nil] at s3
          go_wp2_with (at_builtin; refine wpList_app bt rfl (.tmp 81) (.tmp 90) rfl w2.heap.size Ag ng cg _ rfl (hown.alloc _) _ (some ⟨bb, bo + F, none⟩) (F + Ln - F) (c - F) _ rfl hbsl hlen5 HA.out.2.2 ?_; intro A5 c5 w5 hown5 hg5 _; have hb5 : Below w2.heap.size w2 w5 := below_of_grown (hbw.trans (HA.out.1.mono hzw)) HA.out.2.2 (hown.alloc _) (Nat.le_refl _) hg5; clear hg5)
          go_roundg (gk - 1)
          case measure => have := HGK.out; omega
          case rel => exact ⟨k + 1, A5, ng + Ln, c5, by have := HGK.out; omega, by go_num, rfl, by rw [HO.out.1, HA.out.2.1]; rw [HSB.out] at hown5; exact hown5, hb5⟩
        · simp only at s0 s1 s2 s3 hcd hbs
          have hos : outS base ⟨2, 0, (d.length : Int), d⟩ = d := by unfold outS; rw [if_neg (by simp)]
          have hal : Below wo.heap.size wo (wo.alloc (.cells #[.int .i64 2, .int .i64 0, .int .i64 (d.length : Int), .slice A1 d.length c1] 68)) := (Below.refl _ _).alloc (Nat.le_refl _) _
          have hbsl : BS (wo.alloc (.cells #[.int .i64 2, .int .i64 0, .int .i64 (d.length : Int), .slice A1 d.length c1] 68)) w2.heap.size A1 d.length d := (hbs.below hbw).below (hal.mono hzw)
          have hlen5 : ng + d.length ≤ 140737488355328 := by omega
          have HA := Lib.hid (And.intro hal (And.intro hos (Nat.le_trans hzw hal.size)))
          clear hos hal hbs
          go_wp2_with (at_builtin; refine wpList_app bt rfl (.tmp 52) (.tmp 54) rfl w2.heap.size Ag ng cg _ rfl (hown.alloc _) _ A1 d.length c1 d rfl hbsl hlen5 HA.out.2.2 ?_; intro A5 c5 w5 hown5 hg5 _; have hb5 : Below w2.heap.size w2 w5 := below_of_grown (hbw.trans (HA.out.1.mono hzw)) HA.out.2.2 (hown.alloc _) (Nat.le_refl _) hg5; clear hg5)
          go_roundg (gk - 1)
          case measure => have := HGK.out; omega
          case rel => exact ⟨k + 1, A5, ng + d.length, c5, by have := HGK.out; omega, by go_num, rfl, by rw [HO.out.1, HA.out.2.1]; exact hown5, hb5⟩
      · obtain rfl : k = n2 := by omega
        have t1 : decide ((k : Int) < (k : Int)) = false := by simp
        rw [List.take_of_length_le (by rw [HSL.out]; exact Nat.le_refl _), HH.out.1] at hown
        have hbo := hown.bs
        have hfew : Few L := HH.out.2.1.few (by omega)
        have hbw' := hbw2.trans (hbw.mono hbw2.size)
        have hsp' := hsp2.below hbw
        have hbd' := hbd2.below (hbw.mono hz2)
        have hcnt := hcount_any A2 k c2 L wo hsp' hn2 hfew
        obtain ⟨C, hC⟩ : ∃ C, C = ccS L := ⟨_, rfl⟩
        obtain ⟨T, hT2⟩ : ∃ T, T = ctS L := ⟨_, rfl⟩
        have hsum := HH.out.2.2.2.1
        rw [← hC, ← hT2] at hsum
        have hw1 : IntKind.i64.wrap (C + T) = (m : Int) := by rw [← hsum]; exact wrap_nat_i64 (by omega)
        have HC := Lib.hid (And.intro hC hT2)
        clear hgk hol hng hC hT2 hsum hown hsp' hfew
        go_wp2_with fail
        refine hcnt.mono ?_
        rintro e w5 ⟨rfl, hb5⟩
        rw [← HC.out.1, ← HC.out.2]
        have hbw5 := hbw'.trans (hb5.mono hbw'.size)
        have hbo5 := hbo.below hb5
        have hbd5 := hbd'.below (hb5.mono hbw'.size)
        clear hcnt hbo hbd'
        go_wp2_with fail
        refine (same_any Ag ng cg data A' m c' data w5 _ _ hbo5 hbd5).mono ?_
        rintro e w6 ⟨rfl, rfl⟩
        rw [BEq.rfl]
        go_wp2_with fail
        refine (lives18 w5 (hT.stay hbw5)).mono ?_
        rintro e w6 ⟨rfl, hb6⟩
        go_wp2_with fail
        go_ret
        exact ⟨rfl, hbw5.trans (hb6.mono hbw5.size)⟩
  · have hl := lives18 w hT
    by_cases c1 : 4096 < n
    · have u1 : decide (4096 < (n : Int)) = true := by simp; omega
      have v1 : decide (4096 < n) = true := by simp; omega
      clear c1
      clear hsm
      go_enter Tryd.func10, Tryd.ntmps10
      go_wp2_with fail
      refine hl.mono ?_
      rintro e w1 ⟨rfl, hb1⟩
      go_wp2_with fail
      go_ret
      exact ⟨rfl, hb1⟩
    have u1 : decide (4096 < (n : Int)) = false := by simp; omega
    have v1 : decide (4096 < n) = false := by simp; omega
    by_cases c2 : 3000 < m
    · have u2 : decide (3000 < (m : Int)) = true := by simp; omega
      have v2 : decide (3000 < m) = true := by simp; omega
      clear c1 c2
      clear hsm
      go_enter Tryd.func10, Tryd.ntmps10
      go_wp2_with fail
      refine hl.mono ?_
      rintro e w1 ⟨rfl, hb1⟩
      go_wp2_with fail
      go_ret
      exact ⟨rfl, hb1⟩
    have u2 : decide (3000 < (m : Int)) = false := by simp; omega
    have v2 : decide (3000 < m) = false := by simp; omega
    by_cases c3 : x < 4
    · have u3 : decide (x < 4) = true := by simpa using c3
      clear c1 c2 c3
      clear hsm
      go_enter Tryd.func10, Tryd.ntmps10
      go_wp2_with fail
      refine hl.mono ?_
      rintro e w1 ⟨rfl, hb1⟩
      go_wp2_with fail
      go_ret
      exact ⟨rfl, hb1⟩
    · have u3 : decide (x < 4) = false := by simpa using c3
      have u4 : decide (64 < x) = true := by simp; omega
      clear c1 c2 c3
      clear hsm
      go_enter Tryd.func10, Tryd.ntmps10
      go_wp2_with fail
      refine hl.mono ?_
      rintro e w1 ⟨rfl, hb1⟩
      go_wp2_with fail
      go_ret
      exact ⟨rfl, hb1⟩
end Go.Proofs.YtmnanbcinfdbaaaDoor
end
