/- The walk of the reference's Check; conditions: none beyond its hypotheses. -/
import Derived.Test.YtmnanbcinfdbaaaDc2
namespace Go.Proofs.Ytmnanbcinfdbaaa
open Go.RowKit Go.Proofs.U
set_option linter.unusedVariables false

set_option maxRecDepth 100000 in
set_option maxHeartbeats 4000000 in
theorem rcheck_any (A : Option Addr) (n c : Nat) (l : List Gr.Stp) (N : Int) (w : World) (h : SP w A n l) (hr : ∀ x ∈ l, Rng x) (hn : n ≤ 300) (hd : dsum l ≤ 20000) (hN : 0 ≤ N ∧ N ≤ 4096) :
    Calls Try.prog 17 #[.slice A n c, .int .i64 N] w fun e w' => e = .returned (.int .i64 ((Gr.checkP l N : Nat) : Int)) ∧ Below w.heap.size w w' := by
  obtain ⟨hzS, _⟩ := Go.zero_of_info zeroS
  have hll := h.1
  obtain ⟨E, hE⟩ : ∃ E, E = Gr.checkP l N := ⟨_, rfl⟩
  rw [← hE]
  have HL := Lib.hid (And.intro hll (And.intro hr (And.intro hd hE)))
  obtain ⟨N1, N2⟩ := hN
  clear hll hr hd hE
  go_enter Try.func17, Try.ntmps17
  go_wp2_with fail
  go_loopg [5, 6, 7] n (fun r e o i wr => ∃ k : Nat, r + k = n ∧ i = .int .i64 k ∧ e = .bool (decide ((Gr.outs (l.take k)).1 ≠ 0)) ∧ o = .int .i64 (((Gr.outs (l.take k)).2 : Nat) : Int) ∧ (l.take k).all (Gr.okS N) = true ∧ Below w.heap.size w wr)
  case atStart => exact ⟨0, rfl, rfl, rfl, rfl, rfl, Below.refl _ _⟩
  case round =>
    obtain ⟨k, hgk, rfl, rfl, rfl, hall, hbw⟩ := hrel
    have HGK := Lib.hid (And.intro hgk hall)
    clear hall
    obtain ⟨wo, rfl⟩ : ∃ wo : World, wo = wr := ⟨_, rfl⟩
    by_cases hlt : k < n
    · clear hgk
      obtain ⟨b, off, x, A', c', rfl, hbl, hx, s0, s1, s2, s3, hcd, hbs⟩ := h.at_ hlt
      replace s0 := (hbw.cell (p := ⟨b, _, none⟩) hbl).trans s0
      replace s1 := (hbw.cell (p := ⟨b, _, none⟩) hbl).trans s1
      replace s2 := (hbw.cell (p := ⟨b, _, none⟩) hbl).trans s2
      replace s3 := (hbw.cell (p := ⟨b, _, none⟩) hbl).trans s3
      have htk := Gr.outs_take l k x hx
      have hle := Gr.outs_le (l.take k)
      have hf13 := Gr.outs_fst (l.take k)
      obtain ⟨⟨e0, o0⟩, hO⟩ : ∃ r, Gr.outs (l.take k) = r := ⟨_, rfl⟩
      rw [hO] at htk hle hf13 ⊢
      simp only at htk hle hf13 ⊢
      have hmem := List.mem_of_getElem? hx
      have hrx := HL.out.2.1 x hmem
      have hdx := dsum_mem l x hmem
      have hdx2 := HL.out.2.2.1
      have hal := fun hs => Gr.all_take (s := x) (n := N) hx HGK.out.2 hs
      have hbad := fun hs => Gr.checkP_bad (s := x) (n := N) hx hs
      have hsl := fun hs => Gr.okS_len (s := x) (n := N) hs N2
      have hd1 : x.d.length ≤ 20000 := by omega
      obtain ⟨xk, xf, xl, xd⟩ := x
      obtain ⟨⟨rk1, rk2⟩, ⟨rf1, rf2⟩, ⟨rl1, rl2⟩⟩ := hrx
      simp only at s0 s1 s2 s3 hcd hbs rk1 rk2 rf1 rf2 rl1 rl2 hd1 htk hsl
      have HT := Lib.hid (And.intro htk (And.intro hal (And.intro hbad (And.intro hsl hbs))))
      clear htk hx hmem hdx hdx2 hbs hal hbad hsl hO
      go_wp2_with fail
      refine (rright_any xk xf xl A' xd.length c' N wo ⟨rf1, rf2⟩ ⟨rl1, rl2⟩ hd1 ⟨N1, N2⟩).mono ?_
      rintro e w1 ⟨rfl, hbr⟩
      have hbw1 := hbw.trans (hbr.mono hbw.size)
      have c2 := (hbr.cell (p := ⟨b, off + k * 4 + 2, none⟩) (show b < wo.heap.size by have := hbw.size; omega)).trans s2
      clear hbr s0 s1 s2 s3
      cases hok : Gr.okR xk xf xl xd.length N
      · have hE2 : E = 2 := by rw [HL.out.2.2.2, HT.out.2.2.1 hok]
        subst hE2
        go_wp2_with fail
        go_ret
        exact ⟨rfl, hbw1⟩
      · obtain ⟨g1, g2⟩ := HT.out.2.2.2.1 hok
        have hal := HT.out.2.1 hok
        have HA := Lib.hid hal
        clear hal hok
        have hst := HT.out.1
        have q1 : decide ((4096 : Int) < xl) = false := by simp; omega
        unfold Gr.stepOut at hst
        simp only at hst
        by_cases hbig : 4096 - (o0 : Int) < xl
        · have q2 : decide ((4096 : Int) < o0 + xl) = true := by simp; omega
          rw [if_pos hbig] at hst
          have HST := Lib.hid hst
          clear hst
          go_wp2_with fail
          go_roundg (gk - 1)
          case measure => have := HGK.out.1; omega
          case rel => exact ⟨k + 1, by have := HGK.out.1; omega, by go_num, by rw [HST.out]; rfl, by rw [HST.out]; rfl, HA.out, hbw1⟩
        · have q2 : decide ((4096 : Int) < o0 + xl) = false := by simp; omega
          rw [if_neg hbig] at hst
          have HST := Lib.hid hst
          clear hst
          go_wp2_with fail
          go_roundg (gk - 1)
          case measure => have := HGK.out.1; omega
          case rel => exact ⟨k + 1, by have := HGK.out.1; omega, by go_num, by rw [HST.out]; rcases hf13 with rfl | rfl <;> rfl, by rw [HST.out]; simp only; go_num, HA.out, hbw1⟩
    · obtain rfl : k = n := by omega
      have hE2 : E = (Gr.outs l).1 := by
        have := HGK.out.2
        rw [List.take_of_length_le (by rw [HL.out.1]; omega)] at this
        rw [HL.out.2.2.2]; unfold Gr.checkP; rw [if_pos this]
      rw [List.take_of_length_le (by rw [HL.out.1]; omega)]
      have hf13 := Gr.outs_fst l
      rw [← hE2] at hf13 ⊢
      generalize (Gr.outs l).2 = o1
      rcases hf13 with rfl | rfl
      all_goals
        go_wp2_with fail
        go_ret
        exact ⟨rfl, hbw⟩
end Go.Proofs.Ytmnanbcinfdbaaa
