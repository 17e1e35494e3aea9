/- The walk of DeltaChecks; conditions: none beyond its hypotheses. -/
import Derived.Test.YtmnanbcinfdbaaaLaw19
import Derived.Test.YtmnanbcinfdbaaaDc4
namespace Go.Proofs.Ytmnanbcinfdbaaa
open Go.RowKit Go.Proofs.U
set_option linter.unusedVariables false

set_option maxRecDepth 100000 in
set_option maxHeartbeats 8000000 in
theorem deltaChecks_any (A : Option Addr) (n c : Nat) (l : List Gr.Stp) (N : Int) (w : World) (h : SP w A n l) (hr : ∀ x ∈ l, Rng x) (hbd : ∀ x ∈ l, x.d.length ≤ 140737488355328) (hm : n ≤ maxLen) (hc : n ≤ c) (hN : -9223372036854775808 ≤ N ∧ N ≤ 9223372036854775807) :
    Calls Try.prog 4 #[.slice A n c, .int .i64 N] w (Yes w) := by
  obtain ⟨hzS, _⟩ := Go.zero_of_info zeroS
  obtain ⟨N1, N2⟩ := hN
  have hll := h.1
  have HL := Lib.hid (And.intro hll (And.intro hr (And.intro hbd hm)))
  clear hll hr hbd hm
  go_enter Try.func4, Try.ntmps4
  go_wp2_with fail
  refine (light_any A n c l w h HL.out.2.2.1 HL.out.2.2.2).mono ?_
  rintro e w1 ⟨r, rfl, hr, hb1⟩
  have h1 := h.below hb1
  cases r
  · go_wp2_with fail
    refine (lives19 w1).mono ?_
    rintro e w2 ⟨rfl, hb2⟩
    go_wp2_with fail
    go_ret
    exact ⟨rfl, hb1.trans (hb2.mono hb1.size)⟩
  · obtain ⟨hn3, hD⟩ := hr rfl
    clear hr
    by_cases hN0 : N < 0
    · go_wp2_with fail
      refine (lives19 w1).mono ?_
      rintro e w2 ⟨rfl, hb2⟩
      go_wp2_with fail
      go_ret
      exact ⟨rfl, hb1.trans (hb2.mono hb1.size)⟩
    · by_cases hN4 : 4096 < N
      · go_wp2_with fail
        refine (lives19 w1).mono ?_
        rintro e w2 ⟨rfl, hb2⟩
        go_wp2_with fail
        go_ret
        exact ⟨rfl, hb1.trans (hb2.mono hb1.size)⟩
      · have hNN : 0 ≤ N ∧ N ≤ 4096 := by omega
        have hN0' : 0 ≤ N := hNN.1
        have hN4' : N ≤ 4096 := hNN.2
        obtain ⟨E, hE⟩ : ∃ E, E = Gr.checkP l N := ⟨_, rfl⟩
        obtain ⟨Bs, hBs⟩ : ∃ B, B = Gr.wrP l := ⟨_, rfl⟩
        have hBl := wrP_len l
        rw [← hBs] at hBl
        replace hBl : Bs.length ≤ 30000 := by rw [HL.out.1] at hBl; omega
        have HE := Lib.hid (And.intro hE hBs)
        clear hE hBs
        go_wp2_with fail
        refine (rcheck_any A n c l N w1 h1 HL.out.2.1 hn3 hD hNN).mono ?_
        rintro e w2 ⟨rfl, hb2⟩
        rw [← HE.out.1]
        have h2 := h1.below hb2
        have hbw2 := hb1.trans (hb2.mono hb1.size)
        go_wp2_with fail
        refine (dwrite_any A n c l w2 h2 HL.out.2.1 (by omega) (by omega)).mono ?_
        rintro e w3 ⟨A3, c3, rfl, hown3, hb3⟩
        rw [← HE.out.2] at hown3 ⊢
        have h3 := h2.below hb3
        have hbw3 := hbw2.trans (hb3.mono hbw2.size)
        have hbs3 := hown3.bs
        have hc3 := hown3.le
        have HO3 := Lib.hid hbs3
        clear hown3 hbs3 h1 h2
        go_wp2_with fail
        refine (dcheck_any A n c l N w3 h3 HL.out.2.1 hn3 hD hNN).mono ?_
        rintro e w4 ⟨rfl, hb4⟩
        rw [← HE.out.1]
        have h4 := h3.below hb4
        have hbw4 := hbw3.trans (hb4.mono hbw3.size)
        have hB4 := HO3.out.below hb4
        have HB4 := Lib.hid hB4
        clear hB4 h3
        have e1 : ((E : Int) != (E : Int)) = false := by simp
        go_wp2_with fail
        refine (rwrite_any A n c l w4 h4 HL.out.2.1 (by omega) (by omega)).mono ?_
        rintro e w5 ⟨A5, c5, rfl, hown5, hb5⟩
        rw [← HE.out.2] at hown5 ⊢
        have h5 := h4.below hb5
        have hbw5 := hbw4.trans (hb5.mono hbw4.size)
        have hB5 := HB4.out.below (hb5.mono hb4.size)
        clear h4
        go_wp2_with fail
        refine (same_any A3 Bs.length c3 Bs A5 Bs.length c5 Bs w5 _ _ hB5 hown5.bs).mono ?_
        rintro e w' ⟨rfl, rfl⟩
        have HB5 := Lib.hid hB5
        clear hB5 hown5
        have e4 : (Bs == Bs) = true := by simp
        rw [e4]
        by_cases hE0 : E = 0
        · subst hE0
          have hall : l.all (Gr.okS N) = true := by
            have := HE.out.1
            unfold Gr.checkP at this
            split at this
            · assumption
            · exact absurd this (by decide)
          have hrd := Gr.readP_wrP hN4' l hall
          rw [← HE.out.2] at hrd
          have HR := Lib.hid (And.intro hall hrd)
          clear hall hrd
          go_wp2_with fail
          go_loopg [7, 46] n (fun r o i wr => ∃ k : Nat, r + k = n ∧ i = .int .i64 k ∧ o = .int .i64 (Gr.lsum (l.take k)) ∧ Below w5.heap.size w5 wr)
          case atStart => exact ⟨0, rfl, rfl, rfl, Below.refl _ _⟩
          case round =>
            obtain ⟨k, hgk, rfl, rfl, hb6⟩ := hrel
            have HGK := Lib.hid hgk
            obtain ⟨wo, rfl⟩ : ∃ wo : World, wo = wr := ⟨_, rfl⟩
            obtain ⟨o1, o2⟩ := Gr.lsum_ok hN4' l HR.out.1 k
            have h6 := h5.below hb6
            by_cases hlt : k < n
            · clear hgk
              obtain ⟨b, off, x, A', c', rfl, hbl, hx, s0, s1, s2, s3, hcd, hbs⟩ := h6.at_ hlt
              have htk := Gr.lsum_take l k x hx
              have hsl := Gr.okS_len (List.all_eq_true.1 HR.out.1 x (List.mem_of_getElem? hx)) hN4'
              obtain ⟨xk, xf, xl, xd⟩ := x
              simp only at s0 s1 s2 s3 hcd hbs htk hsl
              obtain ⟨g1, g2⟩ := hsl
              generalize hL : Gr.lsum (l.take k) = L at htk o1 o2 ⊢
              have HT := Lib.hid (And.intro htk hbs)
              clear htk hx hbs hL
              have hb1 : Below wo.heap.size wo (wo.alloc (.cells #[.int .i64 xk, .int .i64 xf, .int .i64 xl, .slice A' xd.length c'] 25)) := (Below.refl _ _).alloc (Nat.le_refl _) _
              have HB := Lib.hid hb1
              clear hb1
              go_wp2_with fail
              go_roundg (gk - 1)
              case measure => have := HGK.out; omega
              case rel => exact ⟨k + 1, by have := HGK.out; omega, by go_num, by rw [HT.out.1], hb6.trans (HB.out.mono hb6.size)⟩
            · obtain rfl : k = n := by omega
              rw [List.take_of_length_le (by rw [HL.out.1]; omega)] at o1 o2 ⊢
              generalize hL : Gr.lsum l = L at o1 o2 ⊢
              have HLs := Lib.hid hL
              clear hL
              have hbw6 := hbw5.trans (hb6.mono hbw5.size)
              have hB6 := HB5.out.below (hb6.mono (by have := hb4.size; have := hb5.size; omega))
              go_wp2_with fail
              refine (dread_any A3 Bs.length c3 _ Bs wo hB6 (by have := hb4.size; have := hb5.size; have := hb6.size; omega) hc3 (by omega)).mono ?_
              rw [HR.out.2]
              rintro e w7 ⟨A7, c7, rfl, hsp7, hc7, hb7⟩
              simp only at hsp7 hc7 ⊢
              rw [HL.out.1] at hsp7 hc7 ⊢
              have h7 := h6.below hb7
              have hbw7 := hbw6.trans (hb7.mono hbw6.size)
              have HSP := Lib.hid hsp7
              clear h6 hB6 hsp7
              go_wp2_with fail
              refine (rsame_eq A7 A k k c7 c l w7 HSP.out h7 (by omega)).mono ?_
              rintro e w8 ⟨rfl, hdr⟩
              have hbw8 : Below w.heap.size w w8 := by obtain ⟨q, rfl⟩ := hdr; exact below_drewN hbw7 _
              have h8 : SP w8 A k l := by obtain ⟨q, rfl⟩ := hdr; exact h7.drewN q
              clear hdr h7
              go_wp2_with fail
              refine (dout_any A k c l N w8 h8 hn3 hN4' HR.out.1).mono ?_
              rintro e w9 ⟨rfl, hb9⟩
              rw [HLs.out]
              have hbw9 := hbw8.trans (hb9.mono hbw8.size)
              have e5 : (L == L) = true := by simp
              go_wp2_with fail
              refine (lives19 w9).mono ?_
              rintro e w10 ⟨rfl, hb10⟩
              go_wp2_with fail
              go_ret
              exact ⟨rfl, hbw9.trans (hb10.mono hbw9.size)⟩
        · have e5 : ((E : Int) != 0) = true := by rw [bne_iff_ne]; omega
          go_wp2_with fail
          refine (lives19 w5).mono ?_
          rintro e w6 ⟨rfl, hb6⟩
          go_wp2_with fail
          go_ret
          exact ⟨rfl, hbw5.trans (hb6.mono hbw5.size)⟩
end Go.Proofs.Ytmnanbcinfdbaaa
