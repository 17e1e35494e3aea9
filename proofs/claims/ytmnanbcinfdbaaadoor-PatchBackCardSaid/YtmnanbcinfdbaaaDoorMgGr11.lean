/- The walks of Write: delta's; conditions: none beyond their hypotheses. -/
import Derived.Test.YtmnanbcinfdbaaaDoorMgGr10
set_option linter.unusedSimpArgs false
set_option linter.unusedVariables false
section
namespace Go.Proofs.YtmnanbcinfdbaaaDoor
open Go.RowKit Go.Proofs.U
set_option linter.unusedVariables false

def Rng (x : Gr.Stp) : Prop := (-9223372036854775808 ≤ x.k ∧ x.k ≤ 9223372036854775807) ∧ (-9223372036854775808 ≤ x.f ∧ x.f ≤ 9223372036854775807) ∧ (-9223372036854775808 ≤ x.l ∧ x.l ≤ 9223372036854775807)
theorem zeroP : (Tryd.prog.info? 115).map (fun i => (i.zero, i.size)) = some (some (.agg #[.slice none 0 0]), 1) := by kernel_rfl
theorem wrS_len (s : Gr.Stp) : (Gr.wrS s).length ≤ 27 + s.d.length := by
  unfold Gr.wrS; split
  · simp only [List.length_append]
    have h1 := (Gr.numB_len 1).1; have h2 := (Gr.numB_len (Gr.natI s.f)).1; have h3 := (Gr.numB_len (Gr.natI s.l)).1
    omega
  · simp only [List.length_append]
    have h1 := (Gr.numB_len 2).1; have h2 := (Gr.numB_len s.d.length).1
    omega
def dsum (l : List Gr.Stp) : Nat := (l.map fun s => s.d.length).sum
theorem wrP_len (l : List Gr.Stp) : (Gr.wrP l).length ≤ 27 * l.length + dsum l := by
  unfold Gr.wrP dsum
  induction l with
  | nil => simp
  | cons x l ih => rw [List.flatMap_cons, List.length_append]; have := wrS_len x; simp only [List.length_cons, List.map_cons, List.sum_cons]; omega
theorem dsum_take (l : List Gr.Stp) (k : Nat) : dsum (l.take k) ≤ dsum l := by
  unfold dsum
  have : (l.map fun s => s.d.length).sum = ((l.take k).map fun s => s.d.length).sum + ((l.drop k).map fun s => s.d.length).sum := by rw [← List.sum_append, ← List.map_append, List.take_append_drop]
  omega
theorem dsum_mem (l : List Gr.Stp) (x : Gr.Stp) (h : x ∈ l) : x.d.length ≤ dsum l := by
  unfold dsum
  induction l with
  | nil => simp at h
  | cons y l ih =>
    rw [List.map_cons, List.sum_cons]
    rcases List.mem_cons.1 h with rfl | h
    · omega
    · have := ih h; omega

set_option maxRecDepth 100000 in
set_option maxHeartbeats 4000000 in
theorem dwrite_any (A : Option Addr) (n c : Nat) (l : List Gr.Stp) (w : World) (h : SP w A n l) (hr : ∀ x ∈ l, Rng x) (hn : n ≤ 1000000) (hd : dsum l ≤ 1000000000) :
    Calls Tryd.prog 55 #[.slice A n c] w (OwnRet 5 w (Gr.wrP l).length (Gr.wrP l)) := by
  obtain ⟨hzP, _⟩ := Go.zero_of_info zeroP
  obtain ⟨hzS, _⟩ := Go.zero_of_info zeroS
  have hll := h.1
  have HL := Lib.hid (And.intro hll (And.intro hr hd))
  clear hll hr hd
  go_enter Tryd.func55, Tryd.ntmps55
  go_wp2_with fail
  have hb0 : Below w.heap.size w (w.alloc (.cells #[.slice none 0 0] 115)) := (Below.refl _ _).alloc (Nat.le_refl _) _
  have hp0 : PenW (w.alloc (.cells #[.slice none 0 0] 115)) w.heap.size w.heap.size [] := ⟨none, 0, Blk.new _ _ _, Own.nil _ _ _, Nat.le_refl _⟩
  generalize (w.alloc (.cells #[.slice none 0 0] 115)) = w0 at hb0 hp0 ⊢
  go_loopg [8] n (fun r i wr => ∃ k : Nat, r + k = n ∧ i = .int .i64 k ∧ PenW wr w.heap.size w.heap.size (Gr.wrP (l.take k)) ∧ Below w.heap.size w wr)
  case atStart => exact ⟨0, rfl, rfl, hp0, hb0⟩
  case round =>
    clear hp0 hb0
    obtain ⟨k, hgk, rfl, hpen, hbw⟩ := hrel
    have HGK := Lib.hid hgk
    obtain ⟨wo, rfl⟩ : ∃ wo : World, wo = wr := ⟨_, rfl⟩
    by_cases hlt : k < n
    · clear hgk
      obtain ⟨b, off, x, A', c', rfl, hbl, hx, s0, s1, s2, s3, hcd, hbs⟩ := h.at_ hlt
      replace s0 := (hbw.cell (p := ⟨b, _, none⟩) hbl).trans s0
      replace s1 := (hbw.cell (p := ⟨b, _, none⟩) hbl).trans s1
      replace s2 := (hbw.cell (p := ⟨b, _, none⟩) hbl).trans s2
      replace s3 := (hbw.cell (p := ⟨b, _, none⟩) hbl).trans s3
      have htk := Gr.wrP_take l k x hx
      have hmem := List.mem_of_getElem? hx
      have hrx := HL.out.2.1 x hmem
      have hdx := dsum_mem l x hmem
      have hlen : (Gr.wrP (l.take k)).length ≤ 2000000000 := by
        have h1 := wrP_len (l.take k)
        have h2 := dsum_take l k
        have h3 := HL.out.2.2
        rw [List.length_take] at h1
        omega
      obtain ⟨xk, xf, xl, xd⟩ := x
      obtain ⟨⟨rk1, rk2⟩, ⟨rf1, rf2⟩, ⟨rl1, rl2⟩⟩ := hrx
      simp only at s0 s1 s2 s3 hcd hbs rk1 rk2 rf1 rf2 rl1 rl2 hdx
      have hd1 : xd.length ≤ 1000000000 := by have := HL.out.2.2; omega
      have HT := Lib.hid (And.intro htk (And.intro hx hbs))
      clear htk hx hmem hdx hbs
      have hal : ∀ o, Below wo.heap.size wo (wo.alloc o) := fun o => (Below.refl _ _).alloc (Nat.le_refl _) _
      by_cases hk1 : xk = 1
      · subst hk1
        obtain ⟨F, hF, hFc⟩ : ∃ F : Nat, Gr.natI xf = F ∧ ((xf = (F : Int) ∧ 0 ≤ xf) ∨ (xf < 0 ∧ F = 0)) := ⟨_, rfl, by unfold Gr.natI; omega⟩
        obtain ⟨G, hG, hGc⟩ : ∃ G : Nat, Gr.natI xl = G ∧ ((xl = (G : Int) ∧ 0 ≤ xl) ∨ (xl < 0 ∧ G = 0)) := ⟨_, rfl, by unfold Gr.natI; omega⟩
        have hws : Gr.wrS ⟨1, xf, xl, xd⟩ = numsB [1, F, G] := by
          unfold Gr.wrS numsB; simp [hF, hG]
        have hF64 : F < 18446744073709551616 := by rw [← hF]; unfold Gr.natI; omega
        have hG64 : G < 18446744073709551616 := by rw [← hG]; unfold Gr.natI; omega
        have hns : ∀ x ∈ [1, F, G], x < 18446744073709551616 := fun x hx => by
          simp only [List.mem_cons, List.not_mem_nil, or_false] at hx
          rcases hx with rfl | rfl | rfl
          · decide
          · exact hF64
          · exact hG64
        have HW := Lib.hid (And.intro hws hns)
        clear hws hF hG hns hF64 hG64
        have hp2 : ∀ o o', PenW ((wo.alloc o).alloc o') w.heap.size w.heap.size (Gr.wrP (l.take k)) := fun o o' => hpen.below ((hal o).alloc (hal o).size o')
        have hz2 : ∀ o o', w.heap.size ≤ ((wo.alloc o).alloc o').heap.size := fun o o' => Nat.le_trans hbw.size ((hal o).alloc (hal o).size o').size
        have hb2 : ∀ o o', Below w.heap.size w ((wo.alloc o).alloc o') := fun o o' => (hbw.alloc hbw.size o).alloc (Nat.le_trans hbw.size (by simp)) o'
        have hq2 : ∀ o, Blk ((wo.alloc o).alloc (.cells ([1, F, G].map u64v).toArray 117)) (wo.heap.size + 1) 117 ([1, F, G].map u64v).toArray := fun o => by
          have := Blk.new (wo.alloc o) 117 ([1, F, G].map u64v).toArray
          rw [World.size_alloc] at this
          exact this
        have HQ := Lib.hid hq2
        clear hq2
        rcases hFc with ⟨rfl, hF0⟩ | ⟨hF0, rfl⟩ <;> rcases hGc with ⟨rfl, hG0⟩ | ⟨hG0, rfl⟩
        all_goals
          go_wp2_with fail
          refine (pnums_any w.heap.size w.heap.size (wo.heap.size + 1) (Gr.wrP (l.take k)) _ HW.out.2 3 rfl (by omega) _ (hp2 _ _) (by omega) (hz2 _ _) (HQ.out _)).mono ?_
          rintro e w1 ⟨rfl, hpen1, hps1⟩
          go_wp2_with fail
          go_roundg (gk - 1)
          case measure => have := HGK.out; omega
          case rel => exact ⟨k + 1, by have := HGK.out; omega, by go_num, by rw [HT.out.1, HW.out.1]; exact hpen1, hps1.below (hb2 _ _) (hz2 _ _) (Nat.le_refl _)⟩
      · have hk1' : (xk == 1) = false := by rw [beq_eq_false_iff_ne]; exact hk1
        have hws : Gr.wrS ⟨xk, xf, xl, xd⟩ = numsB [2] ++ (Gr.numB xd.length ++ xd) := by
          unfold Gr.wrS numsB; simp [hk1]
        have HW := Lib.hid hws
        clear hws
        have hp2 : ∀ o o', PenW ((wo.alloc o).alloc o') w.heap.size w.heap.size (Gr.wrP (l.take k)) := fun o o' => hpen.below ((hal o).alloc (hal o).size o')
        have hz2 : ∀ o o', w.heap.size ≤ ((wo.alloc o).alloc o').heap.size := fun o o' => Nat.le_trans hbw.size ((hal o).alloc (hal o).size o').size
        have hb2 : ∀ o o', Below w.heap.size w ((wo.alloc o).alloc o') := fun o o' => (hbw.alloc hbw.size o).alloc (Nat.le_trans hbw.size (by simp)) o'
        have hq2 : ∀ o, Blk ((wo.alloc o).alloc (.cells ([2].map u64v).toArray 117)) (wo.heap.size + 1) 117 ([2].map u64v).toArray := fun o => by
          have := Blk.new (wo.alloc o) 117 ([2].map u64v).toArray
          rw [World.size_alloc] at this
          exact this
        have hs2 : ∀ o, Blk ((wo.alloc (.cells #[.int .i64 xk, .int .i64 xf, .int .i64 xl, .slice A' xd.length c'] 68)).alloc o) wo.heap.size 68 #[.int .i64 xk, .int .i64 xf, .int .i64 xl, .slice A' xd.length c'] := fun o => (Blk.new _ _ _).alloc o
        have HQ := Lib.hid hq2
        clear hq2
        go_wp2_with fail
        refine (pnums_any w.heap.size w.heap.size (wo.heap.size + 1) (Gr.wrP (l.take k)) [2] (by simp) 1 rfl (by omega) _ (hp2 _ _) (by omega) (hz2 _ _) (HQ.out _)).mono ?_
        rintro e w1 ⟨rfl, hpen1, hps1⟩
        have hgwo : w.heap.size ≠ wo.heap.size := by have := hpen.lt; omega
        have hS1 := hps1.blk (hs2 _) (by omega) (by decide)
        have hbw1 := hps1.below (hb2 _ _) (hz2 _ _) (Nat.le_refl _)
        have c3 := hS1.cell 3
        simp at c3
        have hal1 : ∀ o, Below w1.heap.size w1 (w1.alloc o) := fun o => (Below.refl _ _).alloc (Nat.le_refl _) _
        have hbw2 := hbw1.trans ((hal1 (.cells #[.slice A' xd.length c'] 22)).mono hbw1.size)
        have hpen2 := hpen1.below (hal1 (.cells #[.slice A' xd.length c'] 22))
        have hbs2 := HT.out.2.2.below hbw2
        have hl2 : (Gr.wrP (l.take k) ++ numsB [2]).length ≤ 3000000000 := by
          have := numsB_len [2]
          rw [List.length_append]; simp only [List.length_cons, List.length_nil] at this; omega
        go_wp2_with fail
        refine (ptext_any w.heap.size w.heap.size w1.heap.size _ xd A' c' _ hpen2 (by omega) hbw2.size (Blk.new _ _ _) hbs2).mono ?_
        rintro e w2 ⟨rfl, hpen3, hps2⟩
        go_wp2_with fail
        go_roundg (gk - 1)
        case measure => have := HGK.out; omega
        case rel => exact ⟨k + 1, by have := HGK.out; omega, by go_num, by rw [HT.out.1, HW.out, ← List.append_assoc]; exact hpen3, hps2.below hbw2 hbw2.size (Nat.le_refl _)⟩
    · obtain rfl : k = n := by omega
      rw [List.take_of_length_le (by rw [HL.out.1]; exact Nat.le_refl _)] at hpen
      have hlen : (Gr.wrP l).length ≤ 140737488355328 := by
        have h1 := wrP_len l
        have h3 := HL.out.2.2
        rw [HL.out.1] at h1
        omega
      go_wp2_with fail
      refine (pbytes_any w.heap.size w.heap.size (Gr.wrP l) wo hpen hlen).mono ?_
      rintro e w1 ⟨A1, c1, rfl, hown1, hb1⟩
      go_wp2_with fail
      go_ret
      exact ⟨A1, c1, rfl, hown1.mono hbw.size, hbw.trans (hb1.mono hbw.size)⟩
end Go.Proofs.YtmnanbcinfdbaaaDoor
end
