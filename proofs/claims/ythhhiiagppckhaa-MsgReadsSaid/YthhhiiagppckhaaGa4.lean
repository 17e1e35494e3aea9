/- The walks of the reference's eye; conditions: none beyond their hypotheses. -/
import Derived.Test.YthhhiiagppckhaaGa2
namespace Go.Proofs.Ythhhiiagppckhaa
open Go.RowKit Go.Proofs.U
set_option linter.unusedVariables false

set_option maxHeartbeats 1000000 in
theorem refail_any (g B0 : Nat) (b : List UInt8) (f code : Nat) (hc0 : 0 < code) (w : World) (h : EyeW w 52 g B0 b f) :
    Calls Try.prog 19 #[.pointer (some ⟨g, 0, none⟩), .int .i64 (code : Int)] w (FailRet w 52 g B0 (Gr.efail code b f)) := by
  obtain ⟨A, n, c, hk, hb, hc, hB⟩ := id h
  have hlt := hk.lt
  have c1 := hk.cell 1
  have c0 := hk.cell 0
  have f0 := hk.frozen 0
  have f1 := hk.frozen 1
  simp at c0 c1
  by_cases hf : f = 0
  · subst hf
    rw [Gr.efail_new _ _ (by omega)]
    have s1 := (hk.set_ 1 (.int .i64 (code : Int))).set_ 0 (.slice none 0 0)
    have hg : w.grownBy ((w.setCell ⟨g, 1, none⟩ (.int .i64 (code : Int))).setCell ⟨g, 0, none⟩ (.slice none 0 0)) (some g) := only_two
    have HS := Lib.hid (And.intro s1 hg)
    have hcode : ((code : Int) == 0) = false := by rw [beq_eq_false_iff_ne]; omega
    have hcode2 : ((code : Int) != 0) = true := by rw [bne_iff_ne]; omega
    clear s1 hg
    go_enter Try.func19, Try.ntmps19
    go_wp2_with fail
    go_end0
    exact ⟨rfl, eye_put HS.out.1 (BS.nil w B0 none) (Nat.le_refl _) hB HS.out.2 (by omega), HS.out.2⟩
  · rw [Gr.efail_old _ _ _ hf]
    have hff : ((f : Int) == 0) = false := by rw [beq_eq_false_iff_ne]; omega
    go_enter Try.func19, Try.ntmps19
    go_wp2_with fail
    go_end0
    exact ⟨rfl, h, World.grownBy.refl _ _⟩
theorem mul256_add (n : Nat) (c : UInt8) (h : n < 72057594037927936) : (n : Int) * 256 + (c.toNat : Int) = ((n * 256 + c.toNat : Nat) : Int) := by omega

set_option maxRecDepth 100000 in
set_option maxHeartbeats 4000000 in
theorem read_any (g B0 : Nat) (b : List UInt8) (f most : Nat) (hmost : most < 18446744073709551616) (hm : b.length ≤ 4611686018427387904) (w : World) (h : EyeW w 52 g B0 b f) :
    Calls Try.prog 17 #[.pointer (some ⟨g, 0, none⟩), .int .u64 (most : Int)] w (NumRet w 52 g B0 (Gr.enum most b f)) := by
  obtain ⟨A, n, c, hk, hb, hc, hB⟩ := id h
  have hlt := hk.lt
  have c1 := hk.cell 1
  have c0 := hk.cell 0
  have z0 := hk.frozen 0
  have hk0 := hk
  simp at c1 c0
  obtain ⟨R, hR⟩ : ∃ R, R = Gr.enum most b f := ⟨_, rfl⟩
  rw [← hR]
  have HR := Lib.hid hR
  clear hR
  by_cases hf : f = 0
  · subst hf
    have hs0 : B0 ≤ w.heap.size := by omega
    cases b with
    | nil =>
      have hn0 : n = 0 := hb.1.symm
      subst hn0
      go_enter Try.func17, Try.ntmps17
      go_wp2_with fail
      refine (refail_any g B0 [] 0 11 (by omega) w h).mono ?_
      rintro e w1 ⟨rfl, he1, hg1⟩
      go_wp2_with fail
      go_ret
      have hE := HR.out.trans (Gr.enum_nil most); subst hE
      exact ⟨rfl, he1, hg1⟩
    | cons x r =>
      have hln : r.length + 1 = n := hb.1
      have hml : r.length ≤ 4611686018427387904 := by simp at hm; omega
      obtain ⟨b1, o1, rfl, hlt1, hcell1⟩ := hb.2 (by omega)
      have k1 := hcell1 0 (by simp)
      simp at k1
      have kr : ∀ k d, r[k]? = some d → w.cell? ⟨b1, o1 + (k + 1), none⟩ = some (.int .u8 (d.toNat : Int)) := fun k d hd => by
        obtain ⟨hkl, rfl⟩ := List.getElem?_eq_some_iff.1 hd
        exact hcell1 (k + 1) (by simp; omega)
      have KR := Lib.hid kr
      have HN := Lib.hid hln
      obtain ⟨m, hm'⟩ : ∃ m, m = x.toNat := ⟨_, rfl⟩
      rw [← hm'] at k1
      have HM := Lib.hid hm'
      have hxl : m < 256 := by rw [hm']; exact x.toNat_lt
      have hn1 : 0 < n := by omega
      have hn2 : n ≤ 4611686018427387905 := by omega
      have hrn : r.length = n - 1 := by omega
      have HRN := Lib.hid hrn
      clear kr hcell1 hm hm' hln hrn hml
      by_cases hw : 8 < m
      · go_enter Try.func17, Try.ntmps17
        go_wp2_with fail
        refine (refail_any g B0 (x :: r) 0 10 (by omega) w h).mono ?_
        rintro e w2 ⟨rfl, he2, hg2⟩
        go_wp2_with fail
        go_ret
        have hE := HR.out.trans (Gr.enum_wide most x r (by rw [← HM.out]; exact hw)); subst hE
        exact ⟨rfl, he2, hg2⟩
      · by_cases hsh : n - 1 < m
        · go_enter Try.func17, Try.ntmps17
          go_wp2_with fail
          refine (refail_any g B0 (x :: r) 0 11 (by omega) w h).mono ?_
          rintro e w2 ⟨rfl, he2, hg2⟩
          go_wp2_with fail
          go_ret
          have hE := HR.out.trans (Gr.enum_short most x r (by rw [← HM.out]; omega) (by rw [← HM.out, HRN.out]; exact hsh)); subst hE
          exact ⟨rfl, he2, hg2⟩
        · go_enter Try.func17, Try.ntmps17
          go_wp2_with fail
          go_loop [6, 7] (fun y i => ∃ k : Nat, k ≤ m ∧ i = .int .i64 ((k + 1 : Nat) : Int) ∧ y = .int .u64 ((Gr.be (r.take k) : Nat) : Int)) (fun _ i => m + 1 - (intOf i).toNat)
          case atStart => exact ⟨0, Nat.zero_le _, rfl, rfl⟩
          case round =>
            obtain ⟨k, hk, rfl, rfl⟩ := hrel
            by_cases hlt : k < m
            · obtain ⟨d, hd⟩ : ∃ d, r[k]? = some d := ⟨_, List.getElem?_eq_getElem (by rw [HRN.out]; omega)⟩
              have hcell := KR.out k d hd
              have hbe := Gr.be_take r k d hd
              have h7 := Gr.be_lt7 r k (by omega)
              obtain ⟨q, hq⟩ : ∃ q, q = Gr.be (r.take k) := ⟨_, rfl⟩
              rw [← hq] at hbe h7 ⊢
              have hd8 := d.toNat_lt
              have HB := Lib.hid hbe
              clear hbe hq hd
              have i1 : k + 1 < n := by omega
              have i2 : (k : Int) + 1 < (n : Int) := by omega
              have i3 : (k : Int) + 1 ≤ (m : Int) := by omega
              go_wp2_with fail
              go_round
              case rel => exact ⟨k + 1, by omega, by go_num, by rw [HB.out]; go_num⟩
              case measure => simp [intOf]; omega
            · obtain rfl : k = m := by omega
              obtain ⟨N, hN⟩ : ∃ N, N = Gr.be (r.take k) := ⟨_, rfl⟩
              have hn64 : N < 18446744073709551616 := by rw [hN]; exact Gr.be_lt8 r _ (by omega)
              rw [← hN]
              have HNN := Lib.hid hN
              clear hN
              have hk' := hk0
              have e0 : ¬ ((k : Int) + 1 ≤ (k : Int)) := by omega
              by_cases hm0 : 0 < k
              · obtain ⟨d0, hd0⟩ : ∃ d0, r[0]? = some d0 := ⟨_, List.getElem?_eq_getElem (by rw [HRN.out]; omega)⟩
                have k2 := KR.out 0 d0 hd0
                simp at k2
                have i1 : 1 < n := by omega
                have i2 : (1 : Int) < (n : Int) := by omega
                by_cases hz : d0 = 0
                · subst hz
                  simp at k2
                  have HD := Lib.hid hd0
                  clear hd0
                  go_wp2_with fail
                  refine (refail_any g B0 (x :: r) 0 10 (by omega) w h).mono ?_
                  rintro e w3 ⟨rfl, he3, hg3⟩
                  go_wp2_with fail
                  go_ret
                  have hE := HR.out.trans (Gr.enum_zero most x r (by rw [← HM.out]; omega) (by rw [← HM.out, HRN.out]; omega) (by rw [← HM.out]; exact hm0) HD.out); subst hE
                  exact ⟨rfl, he3, hg3⟩
                · have hd1 : ((d0.toNat : Int) == 0) = false := by
                    rw [beq_eq_false_iff_ne]; intro e0
                    exact hz (UInt8.toNat_inj.1 (by simpa using e0))
                  have hzz : ¬ (0 < k ∧ r[0]? = some 0) := by rintro ⟨_, h0⟩; rw [hd0] at h0; injection h0 with h0; exact hz h0
                  have HZ := Lib.hid hzz
                  clear hzz hz hd0
                  by_cases hmu : most < N
                  · go_wp2_with fail
                    refine (refail_any g B0 (x :: r) 0 13 (by omega) w h).mono ?_
                    rintro e w4 ⟨rfl, he4, hg4⟩
                    go_wp2_with fail
                    go_ret
                    have hE := HR.out.trans (Gr.enum_much most x r (by rw [← HM.out]; omega) (by rw [← HM.out, HRN.out]; omega) (by rw [← HM.out]; exact HZ.out) (by rw [← HM.out, ← HNN.out]; exact hmu)); subst hE
                    exact ⟨rfl, he4, hg4⟩
                  · have hbs := hb.drop (k := 1 + k) (by omega)
                    have hdr : (x :: r).drop (1 + k) = r.drop k := by rw [Nat.add_comm]; rfl
                    rw [hdr] at hbs
                    have HBS := Lib.hid hbs
                    clear hbs hdr
                    have hs := fun V => hk'.set_ 0 V
                    have hg := fun V => only_setCell (World.grownBy.refl w (some g)) (p := ⟨g, 0, none⟩) (.inl rfl) V
                    have HS := Lib.hid (And.intro hs hg)
                    clear hs hg
                    have j1 : 1 + (k : Int) ≤ (n : Int) := by omega
                    have j2 : 1 + (k : Int) ≤ (c : Int) := by omega
                    have j3 : (1 + (k : Int)).toNat = 1 + k := by omega
                    by_cases hck : c = 1 + k
                    · have hnk : n = 1 + k := by omega
                      subst hck
                      subst hnk
                      go_wp2_with fail
                      go_ret
                      have hE := HR.out.trans (Gr.enum_ok most x r (by rw [← HM.out]; omega) (by rw [← HM.out, HRN.out]; omega) (by rw [← HM.out]; exact HZ.out) (by rw [← HM.out, ← HNN.out]; omega)); subst hE
                      rw [← HM.out, ← HNN.out]
                      refine ⟨rfl, eye_put (HS.out.1 _) ?_ (Nat.zero_le _) hB (HS.out.2 _) hs0, HS.out.2 _⟩
                      rw [List.drop_of_length_le (by rw [HRN.out]; omega)]
                      exact BS.nil _ _ _
                    · go_wp2_with fail
                      go_ret
                      have hE := HR.out.trans (Gr.enum_ok most x r (by rw [← HM.out]; omega) (by rw [← HM.out, HRN.out]; omega) (by rw [← HM.out]; exact HZ.out) (by rw [← HM.out, ← HNN.out]; omega)); subst hE
                      rw [← HM.out, ← HNN.out]
                      exact ⟨rfl, eye_put (HS.out.1 _) HBS.out (by omega) hB (HS.out.2 _) hs0, HS.out.2 _⟩
              · obtain rfl : k = 0 := by omega
                have hzz : ¬ (0 < 0 ∧ r[0]? = some 0) := by rintro ⟨h0, _⟩; omega
                have HZ := Lib.hid hzz
                clear hzz
                by_cases hmu : most < N
                · go_wp2_with fail
                  refine (refail_any g B0 (x :: r) 0 13 (by omega) w h).mono ?_
                  rintro e w4 ⟨rfl, he4, hg4⟩
                  go_wp2_with fail
                  go_ret
                  have hE := HR.out.trans (Gr.enum_much most x r (by rw [← HM.out]; omega) (by rw [← HM.out, HRN.out]; omega) (by rw [← HM.out]; exact HZ.out) (by rw [← HM.out, ← HNN.out]; exact hmu)); subst hE
                  exact ⟨rfl, he4, hg4⟩
                · have hbs := hb.drop (k := 1 + 0) (by omega)
                  have hdr : (x :: r).drop (1 + 0) = r.drop 0 := by rw [Nat.add_comm]; rfl
                  rw [hdr] at hbs
                  have HBS := Lib.hid hbs
                  clear hbs hdr
                  have hs := fun V => hk'.set_ 0 V
                  have hg := fun V => only_setCell (World.grownBy.refl w (some g)) (p := ⟨g, 0, none⟩) (.inl rfl) V
                  have HS := Lib.hid (And.intro hs hg)
                  clear hs hg
                  have j1 : 1 + (0 : Int) ≤ (n : Int) := by omega
                  have j2 : 1 + (0 : Int) ≤ (c : Int) := by omega
                  have j3 : (1 + (0 : Int)).toNat = 1 + 0 := by omega
                  by_cases hck : c = 1 + 0
                  · have hnk : n = 1 + 0 := by omega
                    subst hck
                    subst hnk
                    go_wp2_with fail
                    go_ret
                    have hE := HR.out.trans (Gr.enum_ok most x r (by rw [← HM.out]; omega) (by rw [← HM.out, HRN.out]; omega) (by rw [← HM.out]; exact HZ.out) (by rw [← HM.out, ← HNN.out]; omega)); subst hE
                    rw [← HM.out, ← HNN.out]
                    refine ⟨rfl, eye_put (HS.out.1 _) ?_ (Nat.zero_le _) hB (HS.out.2 _) hs0, HS.out.2 _⟩
                    rw [List.drop_of_length_le (by rw [HRN.out]; omega)]
                    exact BS.nil _ _ _
                  · go_wp2_with fail
                    go_ret
                    have hE := HR.out.trans (Gr.enum_ok most x r (by rw [← HM.out]; omega) (by rw [← HM.out, HRN.out]; omega) (by rw [← HM.out]; exact HZ.out) (by rw [← HM.out, ← HNN.out]; omega)); subst hE
                    rw [← HM.out, ← HNN.out]
                    exact ⟨rfl, eye_put (HS.out.1 _) HBS.out (by omega) hB (HS.out.2 _) hs0, HS.out.2 _⟩
  · have hff : ((f : Int) == 0) = false := by rw [beq_eq_false_iff_ne]; omega
    have hff2 : ((f : Int) != 0) = true := by rw [bne_iff_ne]; omega
    go_enter Try.func17, Try.ntmps17
    go_wp2_with fail
    go_ret
    have hE := HR.out.trans (Gr.enum_fault most b f hf); subst hE
    exact ⟨rfl, h, World.grownBy.refl _ _⟩
set_option maxHeartbeats 1000000 in
theorem rint_any (g B0 : Nat) (b : List UInt8) (f most : Nat) (hmost : most < 4611686018427387904) (hm : b.length ≤ 4611686018427387904) (w : World) (h : EyeW w 52 g B0 b f) :
    Calls Try.prog 20 #[.pointer (some ⟨g, 0, none⟩), .int .i64 (most : Int)] w (IntRet w 52 g B0 (Gr.enum most b f)) := by
  have hle := Gr.enum_le most b f
  have hc := read_any g B0 b f most (by omega) hm w h
  obtain ⟨R, hR⟩ : ∃ R, R = Gr.enum most b f := ⟨_, rfl⟩
  rw [← hR] at hle hc ⊢
  obtain ⟨r1, r2⟩ := R
  simp only at hle
  clear hR
  go_enter Try.func20, Try.ntmps20
  go_wp2_with fail
  refine hc.mono ?_
  rintro e w1 ⟨rfl, he, hg⟩
  simp only
  go_wp2_with fail
  go_ret
  exact ⟨rfl, he, hg⟩
def RTextRet (w : World) (T : TypeId) (g B0 : Nat) (r : List UInt8 × List UInt8 × Nat) (e : Ending) (w' : World) : Prop :=
  ∃ A c, e = .returned (.slice A r.1.length c) ∧ r.1.length ≤ c ∧ BS w' B0 A r.1.length r.1 ∧ EyeW w' T g B0 r.2.1 r.2.2 ∧ w.grownBy w' (some g)
set_option maxHeartbeats 2000000 in
theorem rtext_any (g B0 : Nat) (b : List UInt8) (f most : Nat) (hmost : most < 4611686018427387904) (hm : b.length ≤ 4611686018427387904) (w : World) (h : EyeW w 52 g B0 b f) :
    Calls Try.prog 21 #[.pointer (some ⟨g, 0, none⟩), .int .i64 (most : Int)] w (RTextRet w 52 g B0 (Gr.etext most b f)) := by
  have hB : B0 ≤ g := by obtain ⟨_, _, _, _, _, _, h⟩ := h; exact h
  have hglt := h.lt
  obtain ⟨X, hX⟩ : ∃ X, X = Gr.etext most b f := ⟨_, rfl⟩
  rw [← hX]
  have hc := rint_any g B0 b f most hmost (by omega) w h
  have hle := Gr.enum_len most b f
  have hlm := Gr.enum_le most b f
  obtain ⟨R, hR⟩ : ∃ R, R = Gr.enum most b f := ⟨_, rfl⟩
  rw [← hR] at hc hle hlm
  obtain ⟨k, b1, f1⟩ := R
  have HX := Lib.hid (And.intro hX hR.symm)
  simp only at hle hlm
  clear hX hR
  go_enter Try.func21, Try.ntmps21
  go_wp2_with fail
  refine hc.mono ?_
  rintro e w1 ⟨rfl, he, hg⟩
  simp only at he ⊢
  obtain ⟨A1, n1, c1, hk1, hb1, hc1, -⟩ := id he
  have k1 := he.c1
  have k0 := hk1.cell 0
  have z0 := hk1.frozen 0
  simp at k0
  have hs1 : B0 ≤ w1.heap.size := by have := he.lt; omega
  have hl1 := hb1.1
  have HL1 := Lib.hid hl1
  have hn1 : n1 ≤ 4611686018427387904 := by omega
  by_cases hf : f1 = 0
  · subst hf
    by_cases hs : n1 < k
    · clear hl1
      go_wp2_with fail
      refine (refail_any g B0 b1 0 11 (by omega) w1 he).mono ?_
      rintro e w2 ⟨rfl, he2, hg2⟩
      go_wp2_with fail
      go_ret
      have hE := HX.out.1.trans (Gr.etext_short HX.out.2 rfl (by simp only; rw [HL1.out]; exact hs)); subst hE
      exact ⟨none, 0, rfl, Nat.le_refl _, BS.nil _ _ _, he2, only_trans hg hg2⟩
    · have hkn : k ≤ n1 := by omega
      have hbt := hb1.take hkn
      have hsV := fun V => hk1.set_ 0 V
      have hgV := fun V => only_setCell (World.grownBy.refl w1 (some g)) (p := ⟨g, 0, none⟩) (.inl rfl) V
      have hbtV : ∀ V, BS (w1.setCell ⟨g, 0, none⟩ V) B0 A1 k (b1.take k) := fun V => hbt.grown (hgV V) hs1 (fun k hk => by injection hk; omega)
      have hlen : (b1.take k).length = k := hbt.1
      have HS := Lib.hid (And.intro hsV (And.intro hgV (And.intro hbtV hlen)))
      clear hbt hsV hgV hbtV hlen hl1
      have i1 : (k : Int) ≤ (c1 : Int) := by omega
      have i2 : (k : Int) ≤ (n1 : Int) := by omega
      cases A1 with
      | none =>
        have hn0 : n1 = 0 := by
          rcases Nat.eq_zero_or_pos n1 with h0 | h0
          · exact h0
          · obtain ⟨_, _, e, _⟩ := hb1.2 h0; cases e
        subst hn0
        obtain rfl : k = 0 := by omega
        obtain rfl : b1 = [] := List.eq_nil_of_length_eq_zero hb1.1
        by_cases hc0 : c1 = 0
        · subst hc0
          go_wp2_with fail
          go_ret
          have hE := HX.out.1.trans (Gr.etext_ok HX.out.2 rfl (Nat.le_refl _)); subst hE
          exact ⟨none, 0, rfl, Nat.le_refl _, BS.nil _ _ _, eye_put (HS.out.1 _) (BS.nil w1 B0 none) (Nat.le_refl _) hB (HS.out.2.1 _) hs1, only_trans hg (HS.out.2.1 _)⟩
        · go_wp2_with fail
          go_ret
          have hE := HX.out.1.trans (Gr.etext_ok HX.out.2 rfl (Nat.le_refl _)); subst hE
          exact ⟨none, _, rfl, Nat.zero_le _, BS.nil _ _ _, eye_put (HS.out.1 _) (BS.nil w1 B0 none) (Nat.zero_le _) hB (HS.out.2.1 _) hs1, only_trans hg (HS.out.2.1 _)⟩
      | some ad =>
        by_cases hck : c1 = k
        · subst hck
          go_wp2_with fail
          go_ret
          have hE := HX.out.1.trans (Gr.etext_ok HX.out.2 rfl (by simp only; rw [HL1.out]; exact hkn)); subst hE
          refine ⟨some ad, c1, by simp only; rw [HS.out.2.2.2]; rfl, by simp only; rw [HS.out.2.2.2]; exact Nat.le_refl _, by simp only; rw [HS.out.2.2.2]; exact HS.out.2.2.1 _, eye_put (HS.out.1 _) ?_ (by omega) hB (HS.out.2.1 _) hs1, only_trans hg (HS.out.2.1 _)⟩
          rw [List.drop_of_length_le (by rw [HL1.out]; omega)]
          first
            | exact BS.nil _ _ _
            | (rw [show n1 - c1 = 0 by omega]; exact BS.nil _ _ _)
        · go_wp2_with fail
          go_ret
          have hE := HX.out.1.trans (Gr.etext_ok HX.out.2 rfl (by simp only; rw [HL1.out]; exact hkn)); subst hE
          exact ⟨some ad, c1, by simp only; rw [HS.out.2.2.2]; rfl, by simp only; rw [HS.out.2.2.2]; omega, by simp only; rw [HS.out.2.2.2]; exact HS.out.2.2.1 _, eye_put (HS.out.1 _) (bs_same hb1 hkn (.inr rfl)) (by omega) hB (HS.out.2.1 _) hs1, only_trans hg (HS.out.2.1 _)⟩
  · have hff : ((f1 : Int) == 0) = false := by rw [beq_eq_false_iff_ne]; omega
    have hff2 : ((f1 : Int) != 0) = true := by rw [bne_iff_ne]; omega
    clear hl1
    go_wp2_with fail
    go_ret
    have hE := HX.out.1.trans (Gr.etext_bad HX.out.2 hf); subst hE
    exact ⟨none, 0, rfl, Nat.le_refl _, BS.nil _ _ _, he, hg⟩
end Go.Proofs.Ythhhiiagppckhaa
