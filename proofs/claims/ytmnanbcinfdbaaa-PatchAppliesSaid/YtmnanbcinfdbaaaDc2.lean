/- The walks of Check: delta's and the reference's; conditions: none beyond their hypotheses. -/
import Derived.Test.YtmnanbcinfdbaaaDc1b
namespace Go.Proofs.Gr
set_option linter.unusedVariables false
def stepOut (o : Nat × Nat) (l : Int) : Nat × Nat := if 4096 - (o.2 : Int) < l then (13, 4096) else (o.1, o.2 + l.toNat)
def outs (l : List Stp) : Nat × Nat := l.foldl (fun o s => stepOut o s.l) (0, 0)
theorem outs_take (l : List Stp) (k : Nat) (s : Stp) (h : l[k]? = some s) : outs (l.take (k + 1)) = stepOut (outs (l.take k)) s.l := by
  rw [List.take_add_one, h]; simp [outs]
theorem outs_le (l : List Stp) : (outs l).2 ≤ 4096 := by
  unfold outs
  have : ∀ (l : List Stp) (o : Nat × Nat), o.2 ≤ 4096 → (l.foldl (fun o s => stepOut o s.l) o).2 ≤ 4096 := by
    intro l
    induction l with
    | nil => intro o h; exact h
    | cons x l ih =>
      intro o h
      refine ih _ ?_
      unfold stepOut; dsimp only; split
      · exact Nat.le_refl _
      · simp only; omega
  exact this l _ (by decide)
theorem outs_fst (l : List Stp) : (outs l).1 = 0 ∨ (outs l).1 = 13 := by
  unfold outs
  have : ∀ (l : List Stp) (o : Nat × Nat), (o.1 = 0 ∨ o.1 = 13) → (l.foldl (fun o s => stepOut o s.l) o).1 = 0 ∨ (l.foldl (fun o s => stepOut o s.l) o).1 = 13 := by
    intro l
    induction l with
    | nil => intro o h; exact h
    | cons x l ih =>
      intro o h
      refine ih _ ?_
      unfold stepOut; dsimp only; split
      · exact .inr rfl
      · exact h
  exact this l _ (.inl rfl)
def checkP (l : List Stp) (n : Int) : Nat := if l.all (okS n) then (outs l).1 else 2
theorem checkP_bad {l : List Stp} {n : Int} {k : Nat} {s : Stp} (h : l[k]? = some s) (hs : okS n s = false) : checkP l n = 2 := by
  unfold checkP
  rw [if_neg]
  intro ha
  rw [List.all_eq_true] at ha
  have := ha s (List.mem_of_getElem? h)
  rw [hs] at this; exact absurd this (by decide)
theorem okS_len {n : Int} {s : Stp} (h : okS n s = true) (hn : n ≤ 4096) : 1 ≤ s.l ∧ s.l ≤ 4096 := by
  unfold okS okR at h
  simp only [Bool.or_eq_true, Bool.and_eq_true, beq_iff_eq, decide_eq_true_eq] at h
  omega
theorem all_take {l : List Stp} {n : Int} {k : Nat} {s : Stp} (h : l[k]? = some s) (ha : (l.take k).all (okS n) = true) (hs : okS n s = true) : (l.take (k + 1)).all (okS n) = true := by
  rw [List.take_add_one, h]; simp only [List.all_append, ha]; simp [hs]
end Go.Proofs.Gr
namespace Go.Proofs.Ytmnanbcinfdbaaa
open Go.RowKit Go.Proofs.U
set_option linter.unusedVariables false

set_option maxRecDepth 100000 in
set_option maxHeartbeats 4000000 in
theorem dcheck_any (A : Option Addr) (n c : Nat) (l : List Gr.Stp) (N : Int) (w : World) (h : SP w A n l) (hr : ∀ x ∈ l, Rng x) (hn : n ≤ 300) (hd : dsum l ≤ 20000) (hN : 0 ≤ N ∧ N ≤ 4096) :
    Calls Try.prog 18 #[.slice A n c, .int .i64 N] w fun e w' => e = .returned (.int .i64 ((Gr.checkP l N : Nat) : Int)) ∧ Below w.heap.size w w' := by
  obtain ⟨hzS, _⟩ := Go.zero_of_info zeroS
  have hll := h.1
  obtain ⟨E, hE⟩ : ∃ E, E = Gr.checkP l N := ⟨_, rfl⟩
  rw [← hE]
  have HL := Lib.hid (And.intro hll (And.intro hr (And.intro hd hE)))
  obtain ⟨N1, N2⟩ := hN
  clear hll hr hd hE
  go_enter Try.func18, Try.ntmps18
  go_wp2_with fail
  go_loopg [5, 6, 11] n (fun r e o i wr => ∃ k : Nat, r + k = n ∧ i = .int .i64 k ∧ e = .int .i64 (((Gr.outs (l.take k)).1 : Nat) : Int) ∧ o = .int .i64 (((Gr.outs (l.take k)).2 : Nat) : Int) ∧ (l.take k).all (Gr.okS N) = true ∧ Below w.heap.size w wr)
  case atStart => exact ⟨0, rfl, rfl, rfl, rfl, rfl, Below.refl _ _⟩
  case round =>
    obtain ⟨k, hgk, rfl, rfl, rfl, hall, hbw⟩ := hrel
    have HGK := Lib.hid (And.intro hgk hall)
    clear hall
    obtain ⟨wo, rfl⟩ : ∃ wo : World, wo = wr := ⟨_, rfl⟩
    by_cases hlt : k < n
    · clear hgk
      obtain ⟨b, off, x, A', c', rfl, hbl, hx, s0, s1, s2, s3, hcd, hbs⟩ := h.at_ hlt
      replace s0 := (hbw.cell (p := ⟨b, _, none⟩) hbl).trans s0
      replace s1 := (hbw.cell (p := ⟨b, _, none⟩) hbl).trans s1
      replace s2 := (hbw.cell (p := ⟨b, _, none⟩) hbl).trans s2
      replace s3 := (hbw.cell (p := ⟨b, _, none⟩) hbl).trans s3
      have htk := Gr.outs_take l k x hx
      have hle := Gr.outs_le (l.take k)
      have hf13 := Gr.outs_fst (l.take k)
      obtain ⟨⟨e0, o0⟩, hO⟩ : ∃ r, Gr.outs (l.take k) = r := ⟨_, rfl⟩
      rw [hO] at htk hle hf13 ⊢
      simp only at htk hle hf13 ⊢
      have hmem := List.mem_of_getElem? hx
      have hrx := HL.out.2.1 x hmem
      have hdx := dsum_mem l x hmem
      have hdx2 := HL.out.2.2.1
      have hal := fun hs => Gr.all_take (s := x) (n := N) hx HGK.out.2 hs
      have hbad := fun hs => Gr.checkP_bad (s := x) (n := N) hx hs
      have hsl := fun hs => Gr.okS_len (s := x) (n := N) hs N2
      have hd1 : x.d.length ≤ 20000 := by omega
      obtain ⟨xk, xf, xl, xd⟩ := x
      obtain ⟨⟨rk1, rk2⟩, ⟨rf1, rf2⟩, ⟨rl1, rl2⟩⟩ := hrx
      simp only at s0 s1 s2 s3 hcd hbs rk1 rk2 rf1 rf2 rl1 rl2 hd1 htk hsl
      have HT := Lib.hid (And.intro htk (And.intro hal (And.intro hbad (And.intro hsl hbs))))
      clear htk hx hmem hdx hdx2 hbs hal hbad hsl hO
      have hb1 : Below wo.heap.size wo (wo.alloc (.cells #[.int .i64 xk, .int .i64 xf, .int .i64 xl, .slice A' xd.length c'] 25)) := (Below.refl _ _).alloc (Nat.le_refl _) _
      have hk1 : Blk (wo.alloc (.cells #[.int .i64 xk, .int .i64 xf, .int .i64 xl, .slice A' xd.length c'] 25)) wo.heap.size 25 #[.int .i64 xk, .int .i64 xf, .int .i64 xl, .slice A' xd.length c'] := Blk.new _ _ _
      have HB := Lib.hid (And.intro hb1 hk1)
      clear hb1 hk1
      go_wp2_with fail
      refine (dright_any xk xf xl A' xd.length c' N _ ⟨rf1, rf2⟩ ⟨rl1, rl2⟩ hd1 ⟨N1, N2⟩).mono ?_
      rintro e w1 ⟨rfl, hbr⟩
      have hbw1 := hbw.trans ((HB.out.1.trans (hbr.mono HB.out.1.size)).mono hbw.size)
      have hS1 := HB.out.2.stay hbr
      have c2 := hS1.cell 2
      simp at c2
      clear hbr hS1 s0 s1 s2 s3
      cases hok : Gr.okR xk xf xl xd.length N
      · have hE2 : E = 2 := by rw [HL.out.2.2.2, HT.out.2.2.1 hok]
        subst hE2
        go_wp2_with fail
        go_ret
        exact ⟨rfl, hbw1⟩
      · obtain ⟨g1, g2⟩ := HT.out.2.2.2.1 hok
        have hal := HT.out.2.1 hok
        have HA := Lib.hid hal
        clear hal hok
        have hst := HT.out.1
        unfold Gr.stepOut at hst
        simp only at hst
        by_cases hbig : 4096 - (o0 : Int) < xl
        · rw [if_pos hbig] at hst
          have HST := Lib.hid hst
          clear hst
          go_wp2_with fail
          go_roundg (gk - 1)
          case measure => have := HGK.out.1; omega
          case rel => exact ⟨k + 1, by have := HGK.out.1; omega, by go_num, by rw [HST.out]; rfl, by rw [HST.out]; rfl, HA.out, hbw1⟩
        · rw [if_neg hbig] at hst
          have HST := Lib.hid hst
          clear hst
          go_wp2_with fail
          go_roundg (gk - 1)
          case measure => have := HGK.out.1; omega
          case rel => exact ⟨k + 1, by have := HGK.out.1; omega, by go_num, by rw [HST.out], by rw [HST.out]; simp only; go_num, HA.out, hbw1⟩
    · obtain rfl : k = n := by omega
      have hE2 : E = (Gr.outs l).1 := by
        have := HGK.out.2
        rw [List.take_of_length_le (by rw [HL.out.1]; omega)] at this
        rw [HL.out.2.2.2]; unfold Gr.checkP; rw [if_pos this]
      rw [List.take_of_length_le (by rw [HL.out.1]; omega)]
      rw [← hE2]
      generalize (Gr.outs l).2 = o1
      go_wp2_with fail
      go_ret
      exact ⟨rfl, hbw⟩
end Go.Proofs.Ytmnanbcinfdbaaa
