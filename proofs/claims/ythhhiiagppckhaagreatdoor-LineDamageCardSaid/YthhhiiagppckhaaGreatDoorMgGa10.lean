/- The walks of the reference's numbers and texts; conditions: none beyond their hypotheses. -/
import Derived.Test.YthhhiiagppckhaaGreatDoorMgGa8
set_option linter.unusedSimpArgs false
set_option linter.unusedVariables false
section
namespace Go.Proofs.Gr
theorem digsF_more : ∀ (k n : Nat), n < 256 ^ k → digsF (k + 1) n = digsF k n
  | 0, n, h => by simp at h; subst h; rfl
  | k + 1, n, h => by
    by_cases h0 : n = 0
    · subst h0; rw [digsF_zero, digsF_zero]
    · have ih := digsF_more k (n / 256) (by rw [Nat.pow_succ] at h; omega)
      rw [digsF, if_neg h0, ih, digsF, if_neg h0]
theorem digs_step (n : Nat) (h : n < 18446744073709551616) (h0 : n ≠ 0) : digs n = digs (n / 256) ++ [UInt8.ofNat n] := by
  unfold digs
  conv => lhs; rw [digsF, if_neg h0]
  rw [digsF_more 7 (n / 256) (by omega)]
end Go.Proofs.Gr
namespace Go.Proofs.YthhhiiagppckhaaGreatDoor
open Go.RowKit Go.Proofs.U
set_option linter.unusedVariables false
theorem own_one (w : World) (e : TypeId) (b : UInt8) (base : Nat) (hb : base ≤ w.heap.size) : Own (w.alloc (.cells #[.int .u8 (b.toNat : Int)] e)) base e (some ⟨w.heap.size, 0, none⟩) 1 1 [b] :=
  ⟨rfl, .inr ⟨w.heap.size, 1, _, rfl, hb, heap_alloc_new w _, Nat.le_refl _, by decide, rfl, rfl⟩⟩
set_option maxRecDepth 100000 in
set_option maxHeartbeats 2000000 in
theorem rnum_any (n : Nat) (hn : n < 18446744073709551616) (w : World) : Calls Tryz.prog 28 #[.int .u64 (n : Int)] w (OwnRet 5 w (Gr.numB n).length (Gr.numB n)) := by
  have h8 := Gr.digs_len8 n
  obtain ⟨D, hD⟩ : ∃ D, D = Gr.digs n := ⟨_, rfl⟩
  have hnb : Gr.numB n = UInt8.ofNat D.length :: D := by rw [hD]; rfl
  rw [hnb]
  rw [← hD] at h8
  have HD := Lib.hid hD
  clear hD hnb
  have HN := Lib.hid hn
  clear hn
  go_enter Tryz.func28, Tryz.ntmps28
  go_wp2_with fail
  go_loopg [0, 3] n (fun r x t wr => ∃ (A : Option Addr) (c : Nat) (d : List UInt8), r ≤ n ∧ x = .int .u64 (r : Int) ∧ t = .slice A d.length c ∧ Own wr w.heap.size 5 A d.length c d ∧ D = Gr.digs r ++ d ∧ Below w.heap.size w wr)
  case atStart => exact ⟨none, 0, [], Nat.le_refl _, rfl, rfl, Own.nil _ _ _, by rw [List.append_nil]; exact HD.out, Below.refl _ _⟩
  case round =>
    obtain ⟨A, c, d, hrn, rfl, rfl, hown, hd, hbw⟩ := hrel
    obtain ⟨wo, rfl⟩ : ∃ wo : World, wo = wr := ⟨_, rfl⟩
    have hdl : d.length ≤ 8 := by have := congrArg List.length hd; rw [List.length_append] at this; omega
    by_cases h0 : gk = 0
    · subst h0
      have hdD : D = d := by rw [hd]; rfl
      have HDD := Lib.hid hdD
      have hb1 : ((d.length : Int)) = ((UInt8.ofNat d.length).toNat : Int) := by rw [UInt8.toNat_ofNat']; omega
      obtain ⟨b, hb⟩ : ∃ b, b = UInt8.ofNat d.length := ⟨_, rfl⟩
      rw [← hb] at hb1
      have HB := Lib.hid hb
      clear hb hd hdD
      have ho1 := own_one wo 5 b w.heap.size hbw.size
      have hal : Below wo.heap.size wo (wo.alloc (.cells #[.int .u8 (b.toNat : Int)] 5)) := (Below.refl _ _).alloc (Nat.le_refl _) _
      have hbs := (hown.below hal).bs
      have hq : 1 + d.length ≤ 140737488355328 := by omega
      have hbz := Nat.le_trans hbw.size hal.size
      go_wp2_with (at_builtin; refine wpList_app bt rfl (.tmp 17) (.tmp 18) rfl w.heap.size _ _ _ [b] rfl ho1 _ _ _ _ d rfl hbs hq hbz ?_; intro A2 c2 w2 hown2 hg2 _)
      go_ret
      have hbw2 : Below w.heap.size w w2 := below_of_grown (hbw.trans (hal.mono hbw.size)) hbz ho1 (Nat.le_refl _) hg2
      refine ⟨A2, c2, ?_, ?_, hbw2⟩
      · rw [HDD.out, Nat.add_comm 1]; rfl
      · rw [HDD.out, ← HB.out]; rw [Nat.add_comm 1] at hown2; exact hown2
    · have hst := Gr.digs_step gk (by have := HN.out; omega) h0
      have hd2 : D = Gr.digs (gk / 256) ++ ([UInt8.ofNat gk] ++ d) := by rw [hd, hst]; simp
      have hdl2 : d.length ≤ 7 := by
        have := congrArg List.length hd2
        simp at this; omega
      have hb1 : ((gk : Int) % 256) = ((UInt8.ofNat gk).toNat : Int) := by rw [UInt8.toNat_ofNat']; omega
      obtain ⟨b, hb⟩ : ∃ b, b = UInt8.ofNat gk := ⟨_, rfl⟩
      rw [← hb] at hb1 hd2
      have HD2 := Lib.hid hd2
      have hkp : 0 < gk := by omega
      have hkp' : (0 : Int) < (gk : Int) := by omega
      have hk64 : (gk : Int) < 18446744073709551616 := by have := HN.out; omega
      clear hb hd hd2 hst
      have ho1 := own_one wo 5 b wo.heap.size (Nat.le_refl _)
      have hal : Below wo.heap.size wo (wo.alloc (.cells #[.int .u8 (b.toNat : Int)] 5)) := (Below.refl _ _).alloc (Nat.le_refl _) _
      have hbs := (hown.below hal).bs
      have hq : 1 + d.length ≤ 140737488355328 := by omega
      go_wp2_with (at_builtin; refine wpList_app bt rfl (.tmp 9) (.tmp 10) rfl wo.heap.size _ _ _ [b] rfl ho1 _ _ _ _ d rfl hbs hq (by simp) ?_; intro A2 c2 w2 hown2 hg2 _)
      go_roundg (gk / 256)
      case measure => omega
      case rel =>
        have hbw2 : Below w.heap.size w w2 := below_of_grown (hbw.trans (hal.mono hbw.size)) (Nat.le_trans hbw.size hal.size) ho1 hbw.size hg2
        exact ⟨A2, c2, [b] ++ d, by omega, by go_num, by simp [Nat.add_comm], by simpa [Nat.add_comm] using hown2.mono hbw.size, HD2.out, hbw2⟩
set_option maxHeartbeats 1000000 in
theorem rtextb_any (A : Option Addr) (n c : Nat) (d : List UInt8) (w : World) (hd : BS w w.heap.size A n d) (hn : n ≤ 35184372088832) : Calls Tryz.prog 53 #[.slice A n c] w (OwnRet 5 w (Gr.numB n ++ d).length (Gr.numB n ++ d)) := by
  have hc := rnum_any n (by omega) w
  have hnl := (Gr.numB_len n).1
  have hl := hd.1
  have HL := Lib.hid hl
  obtain ⟨N, hN⟩ : ∃ N, N = Gr.numB n := ⟨_, rfl⟩
  rw [← hN] at hc hnl ⊢
  clear hN hl
  go_enter Tryz.func53, Tryz.ntmps53
  go_wp2_with fail
  refine hc.mono ?_
  rintro e w1 ⟨A1, c1, rfl, hown1, hb1⟩
  have hd1 := hd.below hb1
  have hq : N.length + n ≤ 140737488355328 := by omega
  go_wp2_with (at_builtin; refine wpList_app bt rfl (.tmp 6) (.tmp 7) rfl w.heap.size _ _ _ N rfl hown1 _ _ _ _ d rfl hd1 hq hb1.size ?_; intro A2 c2 w2 hown2 hg2 _)
  go_ret
  refine ⟨A2, c2, ?_, ?_, below_of_grown hb1 hb1.size hown1 (Nat.le_refl _) hg2⟩
  · rw [List.length_append, HL.out]; rfl
  · rw [List.length_append, HL.out]; exact hown2
end Go.Proofs.YthhhiiagppckhaaGreatDoor
end
