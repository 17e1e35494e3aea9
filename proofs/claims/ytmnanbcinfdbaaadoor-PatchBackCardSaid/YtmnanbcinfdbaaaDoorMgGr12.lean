/- The walks of Write: the reference's; conditions: none beyond their hypotheses. -/
import Derived.Test.YtmnanbcinfdbaaaDoorMgGr11
set_option linter.unusedSimpArgs false
set_option linter.unusedVariables false
section
namespace Go.Proofs.YtmnanbcinfdbaaaDoor
open Go.RowKit Go.Proofs.U
set_option linter.unusedVariables false

set_option maxRecDepth 100000 in
set_option maxHeartbeats 4000000 in
theorem rwrite_any (A : Option Addr) (n c : Nat) (l : List Gr.Stp) (w : World) (h : SP w A n l) (hr : ∀ x ∈ l, Rng x) (hn : n ≤ 1000000) (hd : dsum l ≤ 1000000000) :
    Calls Tryd.prog 87 #[.slice A n c] w (OwnRet 5 w (Gr.wrP l).length (Gr.wrP l)) := by
  have hll := h.1
  have HL := Lib.hid (And.intro hll (And.intro hr hd))
  clear hll hr hd
  go_enter Tryd.func87, Tryd.ntmps87
  go_wp2_with fail
  go_loopg [3, 4] n (fun r t i wr => ∃ (k : Nat) (Ao : Option Addr) (co L : Nat), r + k = n ∧ i = .int .i64 k ∧ L = (Gr.wrP (l.take k)).length ∧ t = .slice Ao L co ∧ Own wr w.heap.size 5 Ao L co (Gr.wrP (l.take k)) ∧ Below w.heap.size w wr)
  case atStart => exact ⟨0, none, 0, 0, rfl, rfl, rfl, rfl, Own.nil _ _ _, Below.refl _ _⟩
  case round =>
    obtain ⟨k, Ao, co, L, hgk, rfl, hL, rfl, hown, hbw⟩ := hrel
    have HGK := Lib.hid hgk
    obtain ⟨wo, rfl⟩ : ∃ wo : World, wo = wr := ⟨_, rfl⟩
    by_cases hlt : k < n
    · clear hgk
      obtain ⟨b, off, x, A', c', rfl, hbl, hx, s0, s1, s2, s3, hcd, hbs⟩ := h.at_ hlt
      have T0 : ∀ W, Below w.heap.size w W → W.cell? ⟨b, off + k * 4, none⟩ = some (.int .i64 x.k) := fun W hW => (hW.cell (p := ⟨b, _, none⟩) hbl).trans s0
      have T1 : ∀ W, Below w.heap.size w W → W.cell? ⟨b, off + k * 4 + 1, none⟩ = some (.int .i64 x.f) := fun W hW => (hW.cell (p := ⟨b, _, none⟩) hbl).trans s1
      have T2 : ∀ W, Below w.heap.size w W → W.cell? ⟨b, off + k * 4 + 2, none⟩ = some (.int .i64 x.l) := fun W hW => (hW.cell (p := ⟨b, _, none⟩) hbl).trans s2
      have T3 : ∀ W, Below w.heap.size w W → W.cell? ⟨b, off + k * 4 + 3, none⟩ = some (.slice A' x.d.length c') := fun W hW => (hW.cell (p := ⟨b, _, none⟩) hbl).trans s3
      have htk := Gr.wrP_take l k x hx
      have hmem := List.mem_of_getElem? hx
      have hrx := HL.out.2.1 x hmem
      have hdx := dsum_mem l x hmem
      have hlen : L ≤ 2000000000 := by
        have h1 := wrP_len (l.take k)
        have h2 := dsum_take l k
        have h3 := HL.out.2.2
        rw [List.length_take] at h1
        omega
      obtain ⟨xk, xf, xl, xd⟩ := x
      obtain ⟨⟨rk1, rk2⟩, ⟨rf1, rf2⟩, ⟨rl1, rl2⟩⟩ := hrx
      simp only at s0 s1 s2 s3 T0 T1 T2 T3 hcd hbs rk1 rk2 rf1 rf2 rl1 rl2 hdx
      have hd1 : xd.length ≤ 1000000000 := by have := HL.out.2.2; omega
      obtain ⟨LL, hLL⟩ : ∃ LL, LL = Gr.wrP (l.take k) := ⟨_, rfl⟩
      rw [← hLL] at hown htk hL
      have HT := Lib.hid (And.intro htk (And.intro hbs hL))
      have HC := Lib.hid (And.intro T0 (And.intro T1 (And.intro T2 T3)))
      clear htk hx hmem hdx hbs T0 T1 T2 T3 s0 s1 s2 s3 hL hLL
      have c0 := HC.out.1 wo hbw
      by_cases hk1 : xk = 1
      · subst hk1
        have hws : Gr.wrS ⟨1, xf, xl, xd⟩ = Gr.numB 1 ++ Gr.numB (Gr.natI xf) ++ Gr.numB (Gr.natI xl) := by unfold Gr.wrS; simp
        have HW := Lib.hid hws
        clear hws
        have n1 := (Gr.numB_len (Gr.natI 1)).1
        have n2 := (Gr.numB_len (Gr.natI xf)).1
        have n3 := (Gr.numB_len (Gr.natI xl)).1
        obtain ⟨N1, hN1⟩ : ∃ N1, N1 = Gr.numB (Gr.natI 1) := ⟨_, rfl⟩
        obtain ⟨N2, hN2⟩ : ∃ N2, N2 = Gr.numB (Gr.natI xf) := ⟨_, rfl⟩
        obtain ⟨N3, hN3⟩ : ∃ N3, N3 = Gr.numB (Gr.natI xl) := ⟨_, rfl⟩
        have r1 := fun W => rnumber_any 1 (by omega) (by omega) W
        have r2 := fun W => rnumber_any xf rf1 rf2 W
        have r3 := fun W => rnumber_any xl rl1 rl2 W
        rw [← hN1] at r1 n1
        rw [← hN2] at r2 n2
        rw [← hN3] at r3 n3
        have HR := Lib.hid (And.intro r1 (And.intro r2 r3))
        have HN := Lib.hid (And.intro hN1 (And.intro hN2 hN3))
        clear hN1 hN2 hN3 r1 r2 r3
        go_wp2_with fail
        refine (HR.out.1 wo).mono ?_
        rintro e w1 ⟨A1, c1, rfl, own1, hb1⟩
        have hbw1 := hbw.trans (hb1.mono hbw.size)
        have hown1 := hown.below hb1
        have q1 : L + N1.length ≤ 140737488355328 := by omega
        have c1' := HC.out.2.1 w1 hbw1
        go_wp2_with (at_builtin; refine wpList_app bt rfl (.tmp 17) (.tmp 18) rfl w.heap.size _ _ _ LL rfl hown1 _ _ _ _ N1 rfl own1.bs q1 hbw1.size ?_; intro A2 c2 w2 hown2 hg2 _; have hbw2 : Below w.heap.size w w2 := below_of_grown hbw1 hbw1.size hown1 (Nat.le_refl _) hg2; have c2' := HC.out.2.1 w2 hbw2; clear hg2)
        refine (HR.out.2.1 w2).mono ?_
        rintro e w3 ⟨A3, c3, rfl, own3, hb3⟩
        have hbw3 := hbw2.trans (hb3.mono hbw2.size)
        have hown3 := hown2.below hb3
        have q3 : L + N1.length + N2.length ≤ 140737488355328 := by omega
        go_wp2_with (at_builtin; refine wpList_app bt rfl (.tmp 20) (.tmp 26) rfl w.heap.size _ _ _ _ rfl hown3 _ _ _ _ N2 rfl own3.bs q3 hbw3.size ?_; intro A4 c4 w4 hown4 hg4 _; have hbw4 : Below w.heap.size w w4 := below_of_grown hbw3 hbw3.size hown3 (Nat.le_refl _) hg4; have c4' := HC.out.2.2.1 w4 hbw4; clear hg4)
        refine (HR.out.2.2 w4).mono ?_
        rintro e w5 ⟨A5, c5, rfl, own5, hb5⟩
        have hbw5 := hbw4.trans (hb5.mono hbw4.size)
        have hown5 := hown4.below hb5
        have q5 : L + N1.length + N2.length + N3.length ≤ 140737488355328 := by omega
        go_wp2_with (at_builtin; refine wpList_app bt rfl (.tmp 28) (.tmp 34) rfl w.heap.size _ _ _ _ rfl hown5 _ _ _ _ N3 rfl own5.bs q5 hbw5.size ?_; intro A6 c6 w6 hown6 hg6 _; have hbw6 : Below w.heap.size w w6 := below_of_grown hbw5 hbw5.size hown5 (Nat.le_refl _) hg6; clear hg6)
        go_roundg (gk - 1)
        case measure => have := HGK.out; omega
        case rel =>
          have hfin : Gr.wrP (l.take (k + 1)) = LL ++ N1 ++ N2 ++ N3 := by
            rw [HT.out.1, HW.out, HN.out.1, HN.out.2.1, HN.out.2.2]; simp [Gr.natI]
          refine ⟨k + 1, A6, c6, L + N1.length + N2.length + N3.length, by have := HGK.out; omega, by go_num, ?_, rfl, ?_, hbw6⟩
          · rw [hfin, List.length_append, List.length_append, List.length_append, HT.out.2.2]
          · rw [hfin]; exact hown6
      · have hk1' : (xk == 1) = false := by rw [beq_eq_false_iff_ne]; exact hk1
        have hws : Gr.wrS ⟨xk, xf, xl, xd⟩ = Gr.numB 2 ++ (Gr.numB xd.length ++ xd) := by unfold Gr.wrS; simp [hk1]
        have HW := Lib.hid hws
        clear hws
        have n1 := (Gr.numB_len (Gr.natI 2)).1
        have n2 := (Gr.numB_len xd.length).1
        obtain ⟨N1, hN1⟩ : ∃ N1, N1 = Gr.numB (Gr.natI 2) := ⟨_, rfl⟩
        obtain ⟨N2, hN2⟩ : ∃ N2, N2 = Gr.numB xd.length ++ xd := ⟨_, rfl⟩
        have n3 : N2.length ≤ 9 + xd.length := by rw [hN2, List.length_append]; omega
        have r1 := fun W => rnumber_any 2 (by omega) (by omega) W
        have r2 := fun W hW => rtextb_any A' xd.length c' xd W hW (by omega)
        rw [← hN1] at r1 n1
        rw [← hN2] at r2
        have HR := Lib.hid (And.intro r1 r2)
        have HN := Lib.hid (And.intro hN1 hN2)
        clear hN1 hN2 r1 r2 n2
        go_wp2_with fail
        refine (HR.out.1 wo).mono ?_
        rintro e w1 ⟨A1, c1, rfl, own1, hb1⟩
        have hbw1 := hbw.trans (hb1.mono hbw.size)
        have hown1 := hown.below hb1
        have q1 : L + N1.length ≤ 140737488355328 := by omega
        go_wp2_with (at_builtin; refine wpList_app bt rfl (.tmp 36) (.tmp 37) rfl w.heap.size _ _ _ LL rfl hown1 _ _ _ _ N1 rfl own1.bs q1 hbw1.size ?_; intro A2 c2 w2 hown2 hg2 _; have hbw2 : Below w.heap.size w w2 := below_of_grown hbw1 hbw1.size hown1 (Nat.le_refl _) hg2; have c2' := HC.out.2.2.2 w2 hbw2; clear hg2)
        refine (HR.out.2 w2 ((HT.out.2.1.below hbw2).more hbw2.size)).mono ?_
        rintro e w3 ⟨A3, c3, rfl, own3, hb3⟩
        have hbw3 := hbw2.trans (hb3.mono hbw2.size)
        have hown3 := hown2.below hb3
        have q3 : L + N1.length + N2.length ≤ 140737488355328 := by omega
        go_wp2_with (at_builtin; refine wpList_app bt rfl (.tmp 39) (.tmp 45) rfl w.heap.size _ _ _ _ rfl hown3 _ _ _ _ N2 rfl own3.bs q3 hbw3.size ?_; intro A4 c4 w4 hown4 hg4 _; have hbw4 : Below w.heap.size w w4 := below_of_grown hbw3 hbw3.size hown3 (Nat.le_refl _) hg4; clear hg4)
        go_roundg (gk - 1)
        case measure => have := HGK.out; omega
        case rel =>
          have hfin : Gr.wrP (l.take (k + 1)) = LL ++ N1 ++ N2 := by
            rw [HT.out.1, HW.out, HN.out.1, HN.out.2]; simp [Gr.natI]
          refine ⟨k + 1, A4, c4, L + N1.length + N2.length, by have := HGK.out; omega, by go_num, ?_, rfl, ?_, hbw4⟩
          · rw [hfin, List.length_append, List.length_append, HT.out.2.2]
          · rw [hfin]; exact hown4
    · obtain rfl : k = n := by omega
      have hfin : l.take k = l := List.take_of_length_le (by rw [HL.out.1]; exact Nat.le_refl _)
      rw [hfin] at hown hL
      subst hL
      go_wp2_with fail
      go_ret
      exact ⟨_, _, rfl, hown, hbw⟩
end Go.Proofs.YtmnanbcinfdbaaaDoor
end
