/- The walks of right steps: delta's and the reference's; conditions: none beyond their hypotheses. -/
import Derived.Test.YtmnanbcinfdbaaaDoorMgEs1
set_option linter.unusedSimpArgs false
set_option linter.unusedVariables false
section
namespace Go.Proofs.Gr
set_option linter.unusedVariables false
def okR (k f l : Int) (m : Nat) (n : Int) : Bool := (k == 1 && m == 0 && decide (0 ≤ f) && decide (1 ≤ l) && decide (f ≤ n) && decide (l ≤ n - f)) || (k == 2 && f == 0 && decide (1 ≤ m) && decide (m ≤ 128) && l == m)
def okS (n : Int) (s : Stp) : Bool := okR s.k s.f s.l s.d.length n
theorem okR_cases (k f l : Int) (m : Nat) (n : Int) :
    (k = 1 ∧ m ≠ 0) ∨ (k = 1 ∧ m = 0 ∧ f < 0) ∨ (k = 1 ∧ m = 0 ∧ 0 ≤ f ∧ n < f) ∨ (k = 1 ∧ m = 0 ∧ 0 ≤ f ∧ f ≤ n ∧ l < 1) ∨ (k = 1 ∧ m = 0 ∧ 0 ≤ f ∧ f ≤ n ∧ 1 ≤ l ∧ n - f < l ∧ n < l) ∨ (k = 1 ∧ m = 0 ∧ 0 ≤ f ∧ f ≤ n ∧ 1 ≤ l ∧ n - f < l ∧ l ≤ n) ∨ (k = 1 ∧ m = 0 ∧ 0 ≤ f ∧ f ≤ n ∧ 1 ≤ l ∧ l ≤ n - f) ∨
    (k = 2 ∧ f ≠ 0) ∨ (k = 2 ∧ f = 0 ∧ m < 1) ∨ (k = 2 ∧ f = 0 ∧ 1 ≤ m ∧ 128 < m) ∨ (k = 2 ∧ f = 0 ∧ 1 ≤ m ∧ m ≤ 128 ∧ l ≠ m) ∨ (k = 2 ∧ f = 0 ∧ 1 ≤ m ∧ m ≤ 128 ∧ l = m) ∨ (k ≠ 1 ∧ k ≠ 2) := by
  by_cases h1 : k = 1
  · by_cases h2 : m = 0
    · rcases Int.lt_or_le f 0 with h3 | h3
      · simp [h1, h2, h3]
      · rcases Int.lt_or_le n f with h4 | h4
        · simp [h1, h2, h3, h4]
        · rcases Int.lt_or_le l 1 with h5 | h5
          · simp [h1, h2, h3, h4, h5]
          · rcases Int.lt_or_le (n - f) l with h6 | h6
            · rcases Int.lt_or_le n l with h7 | h7 <;> simp [h1, h2, h3, h4, h5, h6, h7]
            · simp [h1, h2, h3, h4, h5, h6]
    · simp [h1, h2]
  · by_cases h2 : k = 2
    · by_cases h3 : f = 0
      · rcases Nat.lt_or_ge m 1 with h4 | h4
        · simp [h2, h3, Nat.lt_one_iff.1 h4]
        · rcases Nat.lt_or_ge 128 m with h5 | h5
          · simp [h2, h3, h4, h5]
          · by_cases h6 : l = m <;> simp [h2, h3, h4, h5, h6]
      · simp [h2, h3]
    · simp [h1, h2]
end Go.Proofs.Gr
namespace Go.Proofs.YtmnanbcinfdbaaaDoor
open Go.RowKit Go.Proofs.U
set_option linter.unusedVariables false

set_option maxRecDepth 100000 in
set_option maxHeartbeats 4000000 in
theorem dright_any (k f l : Int) (A : Option Addr) (m c : Nat) (n : Int) (w : World) (hf : -9223372036854775808 ≤ f ∧ f ≤ 9223372036854775807) (hl : -9223372036854775808 ≤ l ∧ l ≤ 9223372036854775807) (hm : m ≤ 20000) (hn : 0 ≤ n ∧ n ≤ 4096) :
    Calls Tryd.prog 91 #[.agg #[.int .i64 k, .int .i64 f, .int .i64 l, .slice A m c], .int .i64 n] w fun e w' => e = .returned (.bool (Gr.okR k f l m n)) ∧ Below w.heap.size w w' := by
  obtain ⟨R, hR⟩ : ∃ R, R = Gr.okR k f l m n := ⟨_, rfl⟩
  rw [← hR]
  have hb1 : ∀ o, Below w.heap.size w (w.alloc o) := fun o => (Below.refl _ _).alloc (Nat.le_refl _) _
  obtain ⟨f1, f2⟩ := hf
  obtain ⟨l1, l2⟩ := hl
  obtain ⟨n1, n2⟩ := hn
  have HB := Lib.hid hb1
  clear hb1
  rcases Gr.okR_cases k f l m n with ⟨rfl, h0⟩ | ⟨rfl, rfl, h0⟩ | ⟨rfl, rfl, h0, h1⟩ | ⟨rfl, rfl, h0, h1, h2⟩ | ⟨rfl, rfl, h0, h1, h2, h3, h4⟩ | ⟨rfl, rfl, h0, h1, h2, h3, h4⟩ | ⟨rfl, rfl, h0, h1, h2, h3⟩ | ⟨rfl, h0⟩ | ⟨rfl, rfl, h0⟩ | ⟨rfl, rfl, h0, h1⟩ | ⟨rfl, rfl, h0, h1, h2⟩ | ⟨rfl, rfl, h0, h1, rfl⟩ | ⟨h0, h1⟩
  · have e1 : ((m : Int) == 0) = false := by rw [beq_eq_false_iff_ne]; omega
    have hv : R = false := by rw [hR]; simp [Gr.okR]; omega
    rw [hv]; clear hR hv
    go_enter Tryd.func91, Tryd.ntmps91
    go_wp2_with fail
    go_ret
    exact ⟨rfl, HB.out _⟩
  · have e1 : decide ((0 : Int) ≤ f) = false := by simp; omega
    have hv : R = false := by rw [hR]; simp [Gr.okR]; omega
    rw [hv]; clear hR hv
    go_enter Tryd.func91, Tryd.ntmps91
    go_wp2_with fail
    go_ret
    exact ⟨rfl, HB.out _⟩
  · have hv : R = false := by rw [hR]; simp [Gr.okR]; omega
    rw [hv]; clear hR hv
    rcases Int.lt_or_le l 1 with h2 | h2
    all_goals
      go_enter Tryd.func91, Tryd.ntmps91
      go_wp2_with fail
      go_ret
      exact ⟨rfl, HB.out _⟩
  · have hv : R = false := by rw [hR]; simp [Gr.okR]; omega
    rw [hv]; clear hR hv
    go_enter Tryd.func91, Tryd.ntmps91
    go_wp2_with fail
    go_ret
    exact ⟨rfl, HB.out _⟩
  · have hv : R = false := by rw [hR]; simp [Gr.okR]; omega
    rw [hv]; clear hR hv
    have e9 : decide (l ≤ n - f) = false := by simp; omega
    have e8 : decide (f + l ≤ n) = false := by simp; omega
    go_enter Tryd.func91, Tryd.ntmps91
    go_wp2_with fail
    go_ret
    exact ⟨rfl, HB.out _⟩
  · have hv : R = false := by rw [hR]; simp [Gr.okR]; omega
    rw [hv]; clear hR hv
    have e9 : decide (l ≤ n - f) = false := by simp; omega
    have e8 : decide (f + l ≤ n) = false := by simp; omega
    go_enter Tryd.func91, Tryd.ntmps91
    go_wp2_with fail
    go_ret
    exact ⟨rfl, HB.out _⟩
  · have hv : R = true := by rw [hR]; simp [Gr.okR]; omega
    rw [hv]; clear hR hv
    go_enter Tryd.func91, Tryd.ntmps91
    go_wp2_with fail
    go_ret
    exact ⟨rfl, HB.out _⟩
  · have e1 : (f == 0) = false := by rw [beq_eq_false_iff_ne]; omega
    have hv : R = false := by rw [hR]; simp [Gr.okR]; omega
    rw [hv]; clear hR hv
    go_enter Tryd.func91, Tryd.ntmps91
    go_wp2_with fail
    go_ret
    exact ⟨rfl, HB.out _⟩
  · have hv : R = false := by rw [hR]; simp [Gr.okR]; omega
    rw [hv]; clear hR hv
    go_enter Tryd.func91, Tryd.ntmps91
    go_wp2_with fail
    go_ret
    exact ⟨rfl, HB.out _⟩
  · have hv : R = false := by rw [hR]; simp [Gr.okR]; omega
    rw [hv]; clear hR hv
    go_enter Tryd.func91, Tryd.ntmps91
    go_wp2_with fail
    go_ret
    exact ⟨rfl, HB.out _⟩
  · have e1 : (l == (m : Int)) = false := by rw [beq_eq_false_iff_ne]; omega
    have hv : R = false := by rw [hR]; simp [Gr.okR]; omega
    rw [hv]; clear hR hv
    go_enter Tryd.func91, Tryd.ntmps91
    go_wp2_with fail
    go_ret
    exact ⟨rfl, HB.out _⟩
  · have hv : R = true := by rw [hR]; simp [Gr.okR]; omega
    rw [hv]; clear hR hv
    go_enter Tryd.func91, Tryd.ntmps91
    go_wp2_with fail
    go_ret
    exact ⟨rfl, HB.out _⟩
  · have e1 : (k == 1) = false := by rw [beq_eq_false_iff_ne]; omega
    have e2 : (k == 2) = false := by rw [beq_eq_false_iff_ne]; omega
    have hv : R = false := by rw [hR]; simp [Gr.okR]; omega
    rw [hv]; clear hR hv
    go_enter Tryd.func91, Tryd.ntmps91
    go_wp2_with fail
    go_ret
    exact ⟨rfl, HB.out _⟩
end Go.Proofs.YtmnanbcinfdbaaaDoor
end
