/- The walk of the reference's Apply; PatchApplies; conditions: none beyond their hypotheses. -/
import Derived.Test.YtmnanbcinfdbaaaPt12
namespace Go.Proofs.Ytmnanbcinfdbaaa
open Go.RowKit Go.Proofs.U
set_option linter.unusedVariables false
set_option maxRecDepth 100000 in
set_option maxHeartbeats 4000000 in
theorem rapply_any (Ab A : Option Addr) (nb cb n c : Nat) (base : List UInt8) (l : List Gr.Stp) (w : World) (hb : BS w w.heap.size Ab nb base) (hcb : nb ≤ cb) (hnb : nb ≤ 4096) (h : SP w A n l) (hr : ∀ x ∈ l, Rng x) (hn : n ≤ 300) (hd : dsum l ≤ 20000) :
    Calls Try.prog 30 #[.slice Ab nb cb, .slice A n c] w (ApplyRet w (Gr.applyP base l nb)) := by
  obtain ⟨hzS, _⟩ := Go.zero_of_info zeroS
  have hll := h.1
  have hbl := hb.1
  obtain ⟨R, hR⟩ : ∃ R, R = Gr.applyP base l nb := ⟨_, rfl⟩
  rw [← hR]
  obtain ⟨E, hE⟩ : ∃ E, E = Gr.checkP l nb := ⟨_, rfl⟩
  have HL := Lib.hid (And.intro hll (And.intro hbl (And.intro hR (And.intro hE (And.intro hb h)))))
  clear hll hbl hR hE hb h
  go_enter Try.func30, Try.ntmps30
  go_wp2_with fail
  refine (rcheck_any A n c l nb w HL.out.2.2.2.2.2 hr hn hd ⟨by omega, by omega⟩).mono ?_
  rintro e w1 ⟨rfl, hb1⟩
  rw [← HL.out.2.2.2.1]
  by_cases hE0 : E = 0
  · have hall : l.all (Gr.okS nb) = true := Gr.checkP_ok (by rw [← HL.out.2.2.2.1]; exact hE0)
    have hR2 : R = (Gr.applyB base l, 0) := by
      rw [HL.out.2.2.1]; unfold Gr.applyP
      rw [if_neg (by rw [← HL.out.2.2.2.1]; simp [hE0])]
    subst hE0
    have hB1 := (HL.out.2.2.2.2.1.below hb1)
    have hs1 := HL.out.2.2.2.2.2.below hb1
    have HB := Lib.hid (And.intro hall (And.intro hR2 (And.intro hB1 hs1)))
    clear hall hR2 hB1 hs1
    go_wp2_with fail
    go_loopg [7, 8] n (fun r o i wr => ∃ (k : Nat) (Ao : Option Addr) (co L : Nat), r + k = n ∧ i = .int .i64 k ∧ o = .slice Ao L co ∧ L = (Gr.applyB base (l.take k)).length ∧ Own wr w1.heap.size 5 Ao L co (Gr.applyB base (l.take k)) ∧ Below w1.heap.size w1 wr)
    case atStart => exact ⟨0, none, 0, 0, rfl, rfl, rfl, rfl, Own.nil _ _ _, Below.refl _ _⟩
    case round =>
      obtain ⟨k, Ao, co, L, hgk, rfl, rfl, hL, hown, hbw⟩ := hrel
      have HGK := Lib.hid hgk
      obtain ⟨wo, rfl⟩ : ∃ wo : World, wo = wr := ⟨_, rfl⟩
      have hLl : L ≤ 4096 * k := by rw [hL]; exact Gr.applyB_len base l nb (by have := HL.out.2.1; omega) (by omega) HB.out.1 k
      by_cases hlt : k < n
      · clear hgk
        have h6 := HB.out.2.2.2.below hbw
        obtain ⟨b, off, x, A', c', rfl, hbl, hx, s0, s1, s2, s3, hcd, hbs⟩ := h6.at_ hlt
        have htk := Gr.applyB_snoc base l k x hx
        have hok := List.all_eq_true.1 HB.out.1 x (List.mem_of_getElem? hx)
        have hbase := HB.out.2.2.1.below (hbw.mono hb1.size)
        have hdl := Gr.does_len (base := base) (n := nb) hok (by have := HL.out.2.1; omega) (by omega)
        obtain ⟨X, hX⟩ : ∃ X, X = Gr.doesP base x := ⟨_, rfl⟩
        rw [← hX] at hdl htk
        rcases Gr.okS_inv hok (by omega) with ⟨f, m, rfl, hf, hl1, hl4⟩ | ⟨d, rfl, hd1, hd2⟩
        · have hfl : f + m ≤ nb := by
            unfold Gr.okS Gr.okR at hok
            simp at hok
            omega
          obtain ⟨bb, bo, rfl, hbb, _⟩ := hbase.2 (by omega)
          have hbx : BS wo w.heap.size (some ⟨bb, bo + f, none⟩) m X := by
            have := (hbase.drop (k := f) (by omega)).take (k := m) (by omega)
            rw [hX]; simpa [Gr.doesP] using this
          have hxl : X.length = m := by simpa using hdl
          have j1 : (f : Int) + (m : Int) ≤ (nb : Int) := by omega
          have j2 : (f : Int) + (m : Int) ≤ (cb : Int) := by omega
          have j3 : ¬ cb = f := by omega
          have j4 : IntKind.i64.wrap ((f : Int) + (m : Int)) = (f : Int) + (m : Int) := IntWalk.i64_in _ (by omega)
          have j5 : ((f : Int) + (m : Int)).toNat = f + m := by omega
          have j6 : (f : Int) ≤ (f : Int) + (m : Int) := by omega
          have hq : L + m ≤ 140737488355328 := by omega
          simp only at s0 s1 s2 s3
          have HT := Lib.hid (And.intro htk (And.intro hbx (And.intro hxl (And.intro hL hown))))
          clear htk hx hbs hbx hL h6 hok hbase hX hdl hxl hown s3
          go_wp2_with fail
          refine wp_region_class_tail (C := fun w' => Drawn wo w') 19 (by kernel_rfl) (by kernel_rfl) (Drawn.one _) ?_
          simp only [List.take_succ_cons, List.take_zero, List.drop_succ_cons, List.drop_zero]
          repeat
            (refine wpQuiet_step (fun K hK => ?_)
             rw [if_pos (by rfl)]
             apply Exists.intro
             refine ⟨fun w' hw' => ?_, hK _ ?_⟩
             · have e1 := (hw'.cell _).trans s1
               have e2 := (hw'.cell _).trans s2
               go_simp
               first
                 | done
                 | rfl
             clear hK K
             go_simp)
          refine wpQuiet_nil ?_
          intro w2 hw2
          have hown2 : Own w2 w1.heap.size 5 Ao L co (Gr.applyB base (l.take k)) := by obtain ⟨q, rfl⟩ := hw2; exact HT.out.2.2.2.2
          have hbw2 : Below w1.heap.size w1 w2 := hbw.trans (hw2.below _)
          have hbx2 := hw2.bs HT.out.2.1
          go_wp2_with (at_builtin; refine wpList_app bt rfl _ _ rfl w1.heap.size Ao L co _ rfl hown2 _ (some ⟨bb, bo + f, none⟩) m (cb - f) X rfl hbx2 hq hbw2.size ?_; intro A5 c5 w5 hown5 hg5 hat5)
          have hbw5 := below_of_grown hbw2 hbw2.size hown2 (Nat.le_refl _) hg5
          clear hown2 hbx2 hbw2 hg5
          go_roundg (gk - 1)
          case measure => have := HGK.out; omega
          case rel => exact ⟨k + 1, A5, c5, L + m, by have := HGK.out; omega, by go_num, rfl, by rw [HT.out.1, List.length_append, ← HT.out.2.2.2.1, HT.out.2.2.1], by rw [HT.out.1]; exact hown5, hbw5⟩
        · have hxl : X.length = d.length := by simpa using hdl
          have hXd : X = d := by rw [hX]; simp [Gr.doesP]
          subst hXd
          have hq : L + X.length ≤ 140737488355328 := by omega
          simp only at s0 s1 s2 s3 hbs
          have HT := Lib.hid (And.intro htk (And.intro hbs (And.intro hL hown)))
          clear htk hx hbs hL h6 hok hbase hX hdl hxl hown
          go_wp2_with (at_builtin; refine wpList_app bt rfl _ _ rfl w1.heap.size Ao L co _ rfl HT.out.2.2.2 _ A' X.length c' X rfl HT.out.2.1 hq hbw.size ?_; intro A5 c5 w5 hown5 hg5 hat5)
          have hbw5 := below_of_grown hbw hbw.size HT.out.2.2.2 (Nat.le_refl _) hg5
          clear hg5
          go_roundg (gk - 1)
          case measure => have := HGK.out; omega
          case rel => exact ⟨k + 1, A5, c5, L + X.length, by have := HGK.out; omega, by go_num, rfl, by rw [HT.out.1, List.length_append, ← HT.out.2.2.1], by rw [HT.out.1]; exact hown5, hbw5⟩
      · obtain rfl : k = n := by omega
        rw [List.take_of_length_le (by rw [HL.out.1]; omega)] at hown hL
        have HO := Lib.hid (And.intro hown hL)
        clear hown hL
        go_wp2_with fail
        go_ret2
        have hR2 := HB.out.2.1
        obtain ⟨hown, rfl⟩ := HO.out
        subst hR2
        exact ⟨Ao, co, rfl, hown.bs, hb1.trans (hbw.mono hb1.size)⟩
  · have b1 : ((E : Int) != 0) = true := by rw [bne_iff_ne]; omega
    have hR2 : R = ([], E) := by
      rw [HL.out.2.2.1]; unfold Gr.applyP
      rw [if_pos (by rw [← HL.out.2.2.2.1]; exact hE0), ← HL.out.2.2.2.1]
    subst hR2
    go_wp2_with fail
    go_ret2
    exact ⟨none, 0, rfl, BS.nil _ _ _, hb1⟩

set_option maxRecDepth 100000 in
set_option maxHeartbeats 4000000 in
theorem patchApplies_any (Ab A : Option Addr) (nb cb n c : Nat) (base : List UInt8) (l : List Gr.Stp) (w : World) (hb : BS w w.heap.size Ab nb base) (hcb : nb ≤ cb) (hmb : nb ≤ maxLen) (h : SP w A n l) (hr : ∀ x ∈ l, Rng x) (hbd : ∀ x ∈ l, x.d.length ≤ 140737488355328) (hm : n ≤ maxLen) :
    Calls Try.prog 7 #[.slice Ab nb cb, .slice A n c] w (Yes w) := by
  have HL := Lib.hid (And.intro hb (And.intro hr (And.intro hbd hm)))
  clear hb hr hbd hm
  unfold maxLen at hmb
  by_cases hnb : nb ≤ 4096
  · obtain ⟨⟨B, E⟩, hR⟩ : ∃ R, R = Gr.applyP base l nb := ⟨_, rfl⟩
    have HR := Lib.hid hR
    clear hR
    go_enter Try.func7, Try.ntmps7
    go_wp2_with fail
    refine (light_any A n c l w h HL.out.2.2.1 HL.out.2.2.2).mono ?_
    rintro e w1 ⟨r, rfl, hr, hb1⟩
    have h1 := h.below hb1
    cases r
    · go_wp2_with fail
      refine (lives20 w1).mono ?_
      rintro e w2 ⟨rfl, hb2⟩
      go_wp2_with fail
      go_ret
      exact ⟨rfl, hb1.trans (hb2.mono hb1.size)⟩
    · obtain ⟨hn3, hD⟩ := hr rfl
      clear hr
      go_wp2_with fail
      refine (apply_any Ab A nb cb n c base l w1 ((HL.out.1.below hb1).more hb1.size) hcb hnb h1 HL.out.2.1 hn3 hD).mono ?_
      rw [← HR.out]
      rintro e w2 ⟨A2, c2, rfl, hs2, hb2⟩
      simp only at hs2 ⊢
      have h2 := h1.below hb2
      have hbw2 := hb1.trans (hb2.mono hb1.size)
      have HS2 := Lib.hid hs2
      clear hs2 h1
      go_wp2_with fail
      refine (rapply_any Ab A nb cb n c base l w2 ((HL.out.1.below hbw2).more hbw2.size) hcb hnb h2 HL.out.2.1 hn3 hD).mono ?_
      rw [← HR.out]
      rintro e w3 ⟨A3, c3, rfl, hs3, hb3⟩
      simp only at hs3 ⊢
      have hbw3 := hbw2.trans (hb3.mono hbw2.size)
      go_wp2_with fail
      refine (same_any A2 B.length c2 B A3 B.length c3 B w3 _ _ (HS2.out.below hb3) hs3).mono ?_
      rintro e w' ⟨rfl, rfl⟩
      clear hs3 h2
      have e4 : (B == B) = true := by simp
      rw [e4]
      have e5 : ((E : Int) == (E : Int)) = true := by simp
      go_wp2_with fail
      refine (lives20 w3).mono ?_
      rintro e w4 ⟨rfl, hb4⟩
      go_wp2_with fail
      go_ret
      exact ⟨rfl, hbw3.trans (hb4.mono hbw3.size)⟩
  · go_enter Try.func7, Try.ntmps7
    go_wp2_with fail
    refine (lives20 w).mono ?_
    rintro e w2 ⟨rfl, hb2⟩
    go_wp2_with fail
    go_ret
    exact ⟨rfl, hb2⟩
end Go.Proofs.Ytmnanbcinfdbaaa
