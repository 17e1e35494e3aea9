/- HuntCounts; conditions: none beyond its hypotheses. -/
import Derived.Test.YtmnanbcinfdbaaaDoorMgH18
set_option linter.unusedSimpArgs false
set_option linter.unusedVariables false
section
namespace Go.Proofs.YtmnanbcinfdbaaaDoor
open Go.RowKit Go.Proofs.U
set_option linter.unusedVariables false
set_option maxRecDepth 100000 in
set_option maxHeartbeats 8000000 in
theorem huntCounts_any (A : Option Addr) (n c : Nat) (l : List Gr.Stp) (w : World) (h : SP w A n l) (hbd : ∀ x ∈ l, x.d.length ≤ 140737488355328) (hm : n ≤ maxLen) (hT : Tabs w) :
    Calls Tryd.prog 12 #[.slice A n c] w (Yes w) := by
  by_cases hn : 200 < n
  · have u1 : decide (200 < (n : Int)) = true := by simp; omega
    have v1 : decide (200 < n) = true := by simp; omega
    have hl := lives18 w hT
    clear hn h hbd
    go_enter Tryd.func12, Tryd.ntmps12
    go_wp2_with fail
    refine hl.mono ?_
    rintro e w1 ⟨rfl, hb1⟩
    go_wp2_with fail
    go_ret
    exact ⟨rfl, hb1⟩
  have u1 : decide (200 < (n : Int)) = false := by simp; omega
  have v1 : decide (200 < n) = false := by simp; omega
  obtain ⟨hzS, _⟩ := Go.zero_of_info zeroS'
  have hll := h.1
  have HL := Lib.hid (And.intro hll (And.intro hbd hm))
  clear hll hbd hm
  go_enter Tryd.func12, Tryd.ntmps12
  go_wp2_with fail
  go_loopg [3, 4, 15] n (fun r a b i wr => ∃ k : Nat, r + k = n ∧ i = .int .i64 k ∧ a = .int .i64 (ccS (l.take k)) ∧ b = .int .i64 (ctS (l.take k)) ∧ Few (l.take k) ∧ Below w.heap.size w wr)
  case atStart => exact ⟨0, rfl, rfl, rfl, rfl, (by intro x hx; cases hx), Below.refl _ _⟩
  case round =>
    obtain ⟨k, hgk, rfl, rfl, rfl, hfw, hbw⟩ := hrel
    have HGK := Lib.hid hgk
    obtain ⟨wo, rfl⟩ : ∃ wo : World, wo = wr := ⟨_, rfl⟩
    by_cases hlt : k < n
    · clear hgk
      obtain ⟨b, off, x, A', c', rfl, hbl, hx, s0, s1, s2, s3, hcd, hbs⟩ := h.at_ hlt
      have hbs0 := cc_bd (l.take k) hfw k
      rw [List.take_take, Nat.min_self] at hbs0
      obtain ⟨o1, o2, o3, o4⟩ := hbs0
      replace s0 := (hbw.cell (p := ⟨b, _, none⟩) hbl).trans s0
      replace s1 := (hbw.cell (p := ⟨b, _, none⟩) hbl).trans s1
      replace s2 := (hbw.cell (p := ⟨b, _, none⟩) hbl).trans s2
      replace s3 := (hbw.cell (p := ⟨b, _, none⟩) hbl).trans s3
      obtain ⟨ht1, ht2⟩ := cc_take l k x hx
      have b3 := HL.out.2.1 x (List.mem_of_getElem? hx)
      have hft : 0 ≤ x.l → x.l ≤ 1099511627776 → Few (l.take (k + 1)) := fun h1 h2 y hy => by
        rw [List.take_add_one, hx] at hy
        rcases List.mem_append.1 hy with hy | hy
        · exact hfw y hy
        · simp at hy; subst hy; exact ⟨h1, h2, b3⟩
      obtain ⟨xk, xf, xl, xd⟩ := x
      simp only at s0 s1 s2 s3 hcd hbs ht1 ht2 b3 hft
      generalize hLc : ccS (l.take k) = C at ht1 o1 o2 ⊢
      generalize hLt : ctS (l.take k) = T at ht2 o3 o4 ⊢
      have hb1 : Below wo.heap.size wo (wo.alloc (.cells #[.int .i64 xk, .int .i64 xf, .int .i64 xl, .slice A' xd.length c'] 68)) := (Below.refl _ _).alloc (Nat.le_refl _) _
      have hbwa := hbw.trans (hb1.mono hbw.size)
      have hl := lives18 _ (hT.stay hbwa)
      have hw2 : IntKind.i64.wrap (T + (xd.length : Int)) = T + (xd.length : Int) := by rw [IntKind.wrap_i64]; omega
      have HT := Lib.hid (And.intro ht1 (And.intro ht2 hbs))
      have HB := Lib.hid (And.intro hbwa hft)
      clear ht1 ht2 hx hbs hLc hLt hb1 hbwa hft hfw
      by_cases hx0 : xl < 0
      · have y1 : decide (xl < 0) = true := by simpa using hx0
        clear hx0
        go_wp2_with fail
        refine hl.mono ?_
        rintro e w2 ⟨rfl, hb2⟩
        go_wp2_with fail
        go_ret
        exact ⟨rfl, HB.out.1.trans (hb2.mono HB.out.1.size)⟩
      have y1 : decide (xl < 0) = false := by simpa using hx0
      by_cases hx1 : 1099511627776 < xl
      · have y2 : decide (1099511627776 < xl) = true := by simpa using hx1
        clear hx0 hx1
        go_wp2_with fail
        refine hl.mono ?_
        rintro e w2 ⟨rfl, hb2⟩
        go_wp2_with fail
        go_ret
        exact ⟨rfl, HB.out.1.trans (hb2.mono HB.out.1.size)⟩
      have y2 : decide (1099511627776 < xl) = false := by simpa using hx1
      have hf9 := HB.out.2 (by omega) (by omega)
      have hw1 : IntKind.i64.wrap (C + xl) = C + xl := by rw [IntKind.wrap_i64]; omega
      have HF := Lib.hid hf9
      clear hx0 hx1 hf9 hl
      by_cases hk : xk = 1
      · have z1 : decide (xk = 1) = true := by simpa using hk
        have z2 : (xk == 1) = true := by simpa using hk
        have HK := Lib.hid hk
        clear hk
        go_wp2_with fail
        go_roundg (gk - 1)
        case measure => have := HGK.out; omega
        case rel => exact ⟨k + 1, by have := HGK.out; omega, by go_num, by rw [HT.out.1, if_pos HK.out], by rw [HT.out.2.1, if_pos HK.out, Int.add_zero], HF.out, HB.out.1⟩
      · have z1 : decide (xk = 1) = false := by simpa using hk
        have z2 : (xk == 1) = false := by simpa using hk
        go_wp2_with fail
        go_roundg (gk - 1)
        case measure => have := HGK.out; omega
        case rel => exact ⟨k + 1, by have := HGK.out; omega, by go_num, by rw [HT.out.1, if_neg hk, Int.add_zero], by rw [HT.out.2.1, if_neg hk], HF.out, HB.out.1⟩
    · obtain rfl : k = n := by omega
      rw [List.take_of_length_le (by rw [HL.out.1]; omega)] at hfw ⊢
      have hcnt := hcount_any A k c l wo (h.below hbw) (by omega) hfw
      have hl := fun w' (hb : Below w.heap.size w w') => lives18 w' (hT.stay hb)
      obtain ⟨C, hC⟩ : ∃ C, C = ccS l := ⟨_, rfl⟩
      obtain ⟨T, hTT⟩ : ∃ T, T = ctS l := ⟨_, rfl⟩
      rw [← hC, ← hTT]
      have HC := Lib.hid (And.intro hC hTT)
      clear hC hTT hgk hfw
      go_wp2_with fail
      refine hcnt.mono ?_
      rintro e w2 ⟨rfl, hb2⟩
      rw [← HC.out.1, ← HC.out.2]
      have hbw2 := hbw.trans (hb2.mono hbw.size)
      go_wp2_with fail
      refine (hl w2 hbw2).mono ?_
      rintro e w3 ⟨rfl, hb3⟩
      go_wp2_with fail
      go_ret
      exact ⟨rfl, hbw2.trans (hb3.mono hbw2.size)⟩
end Go.Proofs.YtmnanbcinfdbaaaDoor
end
