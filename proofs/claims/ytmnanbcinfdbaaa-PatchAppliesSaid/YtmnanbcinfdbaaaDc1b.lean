/- The walks of right steps: delta's and the reference's; conditions: none beyond their hypotheses. -/
import Derived.Test.YtmnanbcinfdbaaaDc1
namespace Go.Proofs.Ytmnanbcinfdbaaa
open Go.RowKit Go.Proofs.U
set_option linter.unusedVariables false

set_option maxRecDepth 100000 in
set_option maxHeartbeats 4000000 in
theorem rright_any (k f l : Int) (A : Option Addr) (m c : Nat) (n : Int) (w : World) (hf : -9223372036854775808 ≤ f ∧ f ≤ 9223372036854775807) (hl : -9223372036854775808 ≤ l ∧ l ≤ 9223372036854775807) (hm : m ≤ 20000) (hn : 0 ≤ n ∧ n ≤ 4096) :
    Calls Try.prog 44 #[.agg #[.int .i64 k, .int .i64 f, .int .i64 l, .slice A m c], .int .i64 n] w fun e w' => e = .returned (.bool (Gr.okR k f l m n)) ∧ Below w.heap.size w w' := by
  obtain ⟨R, hR⟩ : ∃ R, R = Gr.okR k f l m n := ⟨_, rfl⟩
  rw [← hR]
  have hb1 : ∀ o, Below w.heap.size w (w.alloc o) := fun o => (Below.refl _ _).alloc (Nat.le_refl _) _
  obtain ⟨f1, f2⟩ := hf
  obtain ⟨l1, l2⟩ := hl
  obtain ⟨n1, n2⟩ := hn
  have HB := Lib.hid hb1
  clear hb1
  rcases Gr.okR_cases k f l m n with ⟨rfl, h0⟩ | ⟨rfl, rfl, h0⟩ | ⟨rfl, rfl, h0, h1⟩ | ⟨rfl, rfl, h0, h1, h2⟩ | ⟨rfl, rfl, h0, h1, h2, h3, h4⟩ | ⟨rfl, rfl, h0, h1, h2, h3, h4⟩ | ⟨rfl, rfl, h0, h1, h2, h3⟩ | ⟨rfl, h0⟩ | ⟨rfl, rfl, h0⟩ | ⟨rfl, rfl, h0, h1⟩ | ⟨rfl, rfl, h0, h1, h2⟩ | ⟨rfl, rfl, h0, h1, rfl⟩ | ⟨h0, h1⟩
  · have e1 : ((m : Int) == 0) = false := by rw [beq_eq_false_iff_ne]; omega
    have hv : R = false := by rw [hR]; simp [Gr.okR]; omega
    rw [hv]; clear hR hv
    go_enter Try.func44, Try.ntmps44
    go_wp2_with fail
    go_ret
    exact ⟨rfl, HB.out _⟩
  · have e1 : decide ((0 : Int) ≤ f) = false := by simp; omega
    have hv : R = false := by rw [hR]; simp [Gr.okR]; omega
    rw [hv]; clear hR hv
    go_enter Try.func44, Try.ntmps44
    go_wp2_with fail
    go_ret
    exact ⟨rfl, HB.out _⟩
  · have hv : R = false := by rw [hR]; simp [Gr.okR]; omega
    rw [hv]; clear hR hv
    rcases Int.lt_or_le l 1 with h2 | h2
    all_goals
      go_enter Try.func44, Try.ntmps44
      go_wp2_with fail
      go_ret
      exact ⟨rfl, HB.out _⟩
  · have hv : R = false := by rw [hR]; simp [Gr.okR]; omega
    rw [hv]; clear hR hv
    go_enter Try.func44, Try.ntmps44
    go_wp2_with fail
    go_ret
    exact ⟨rfl, HB.out _⟩
  · have hv : R = false := by rw [hR]; simp [Gr.okR]; omega
    rw [hv]; clear hR hv
    have e9 : decide (l ≤ n - f) = false := by simp; omega
    have e8 : decide (f + l ≤ n) = false := by simp; omega
    go_enter Try.func44, Try.ntmps44
    go_wp2_with fail
    go_ret
    exact ⟨rfl, HB.out _⟩
  · have hv : R = false := by rw [hR]; simp [Gr.okR]; omega
    rw [hv]; clear hR hv
    have e9 : decide (l ≤ n - f) = false := by simp; omega
    have e8 : decide (f + l ≤ n) = false := by simp; omega
    go_enter Try.func44, Try.ntmps44
    go_wp2_with fail
    go_ret
    exact ⟨rfl, HB.out _⟩
  · have hv : R = true := by rw [hR]; simp [Gr.okR]; omega
    rw [hv]; clear hR hv
    have e8 : decide (f + l ≤ n) = true := by simp; omega
    go_enter Try.func44, Try.ntmps44
    go_wp2_with fail
    go_ret
    exact ⟨rfl, HB.out _⟩
  · have e1 : (f == 0) = false := by rw [beq_eq_false_iff_ne]; omega
    have hv : R = false := by rw [hR]; simp [Gr.okR]; omega
    rw [hv]; clear hR hv
    go_enter Try.func44, Try.ntmps44
    go_wp2_with fail
    go_ret
    exact ⟨rfl, HB.out _⟩
  · have hv : R = false := by rw [hR]; simp [Gr.okR]; omega
    rw [hv]; clear hR hv
    go_enter Try.func44, Try.ntmps44
    go_wp2_with fail
    go_ret
    exact ⟨rfl, HB.out _⟩
  · have hv : R = false := by rw [hR]; simp [Gr.okR]; omega
    rw [hv]; clear hR hv
    go_enter Try.func44, Try.ntmps44
    go_wp2_with fail
    go_ret
    exact ⟨rfl, HB.out _⟩
  · have e1 : (l == (m : Int)) = false := by rw [beq_eq_false_iff_ne]; omega
    have hv : R = false := by rw [hR]; simp [Gr.okR]; omega
    rw [hv]; clear hR hv
    go_enter Try.func44, Try.ntmps44
    go_wp2_with fail
    go_ret
    exact ⟨rfl, HB.out _⟩
  · have hv : R = true := by rw [hR]; simp [Gr.okR]; omega
    rw [hv]; clear hR hv
    go_enter Try.func44, Try.ntmps44
    go_wp2_with fail
    go_ret
    exact ⟨rfl, HB.out _⟩
  · have e1 : (k == 1) = false := by rw [beq_eq_false_iff_ne]; omega
    have e2 : (k == 2) = false := by rw [beq_eq_false_iff_ne]; omega
    have hv : R = false := by rw [hR]; simp [Gr.okR]; omega
    rw [hv]; clear hR hv
    go_enter Try.func44, Try.ntmps44
    go_wp2_with fail
    go_ret
    exact ⟨rfl, HB.out _⟩
end Go.Proofs.Ytmnanbcinfdbaaa
