/- The document's text of a fault; conditions: none beyond their hypotheses. -/
import Derived.Test.YthhhiiagppckhaaDoorBe17
import Derived.Test.YthhhiiagppckhaaDoorBe18
namespace Go.Proofs.YthhhiiagppckhaaDoor
open Go.RowKit Go.Proofs.U Go.Proofs.Bp
set_option linter.unusedVariables false

def digits10 : ByteArray := ⟨#[48, 49, 50, 51, 52, 53, 54, 55, 56, 57]⟩
theorem sub10 (d : Nat) (h : d < 10) (w : World) : (Instr.slice 9 (.string digits10) (some (.int .i64 (d : Int))) (some (.int .i64 ((d : Int) + 1))) none).run Tryd.prog w = .ok (.string (strOf (Lib.decDigits d))) w := by
  rw [run_slice_string w 9 digits10 .i64 .i64 (d : Int) ((d : Int) + 1) Tryd.underlying9 (by omega) (by omega) (by show _ ≤ (10 : Int); omega)]
  have e : Lib.decDigits d = [UInt8.ofNat (48 + d)] := by rw [Lib.decDigits, dif_pos h]
  rw [e]
  have hs : d = 0 ∨ d = 1 ∨ d = 2 ∨ d = 3 ∨ d = 4 ∨ d = 5 ∨ d = 6 ∨ d = 7 ∨ d = 8 ∨ d = 9 := by omega
  rcases hs with rfl | rfl | rfl | rfl | rfl | rfl | rfl | rfl | rfl | rfl <;> rfl
theorem dec_len : ∀ k m : Nat, m < 10 ^ k → (Lib.decDigits m).length ≤ k + 1
  | 0, m, h => by rw [Lib.decDigits, dif_pos (by omega)]; simp
  | k + 1, m, h => by
    rw [Lib.decDigits]
    split
    · simp
    · rw [Nat.pow_succ] at h
      have := dec_len k (m / 10) (by omega)
      rw [List.length_append]; simp; omega
def DgRet (w : World) (s : ByteArray) (e : Ending) (w' : World) : Prop := e = .returned (.string s) ∧ w = w'
def DgAll (n : Nat) : Prop := ∀ (m : Nat) (w : World), m < n → m ≤ 1000000 → Calls Tryd.prog 68 #[.int .i64 (m : Int)] w (DgRet w (strOf (Lib.decDigits m)))
set_option maxRecDepth 100000 in
set_option maxHeartbeats 4000000 in
theorem dg_step (m : Nat) (ih : DgAll m) (hm : m ≤ 1000000) (w : World) : Calls Tryd.prog 68 #[.int .i64 (m : Int)] w (DgRet w (strOf (Lib.decDigits m))) := by
  have d0 : decide ((m : Int) < 0) = false := decide_eq_false (by omega)
  by_cases h : m < 10
  · have hs := sub10 m h
    obtain ⟨s, hss⟩ : ∃ s, s = strOf (Lib.decDigits m) := ⟨_, rfl⟩
    rw [← hss] at hs ⊢
    have d1 : decide ((m : Int) < 10) = true := decide_eq_true (by omega)
    obtain ⟨D, hD⟩ : ∃ D, D = digits10 := ⟨_, rfl⟩
    unfold digits10 at hs
    clear hss hD
    go_enter Tryd.func68, Tryd.ntmps68
    go_wp2_with fail
    go_ret
    exact ⟨rfl, rfl⟩
  · have d1 : decide ((m : Int) < 10) = false := decide_eq_false (by omega)
    obtain ⟨q, hq⟩ : ∃ q, q = m / 10 := ⟨_, rfl⟩
    obtain ⟨r, hr⟩ : ∃ r, r = m % 10 := ⟨_, rfl⟩
    have hqi : (m : Int) / 10 = (q : Int) := by omega
    have hri : (m : Int) % 10 = (r : Int) := by omega
    have h1 := ih q w (by omega) (by omega)
    have h2 := ih r w (by omega) (by omega)
    have l1 := dec_len 7 q (by omega)
    have l2 := dec_len 7 r (by omega)
    have e : Lib.decDigits m = Lib.decDigits q ++ Lib.decDigits r := by
      rw [Lib.decDigits, dif_neg h, ← hq, ← hr, show Lib.decDigits r = [UInt8.ofNat (48 + r)] by rw [Lib.decDigits, dif_pos (by omega)]]
    obtain ⟨s1, hs1⟩ : ∃ s, s = strOf (Lib.decDigits q) := ⟨_, rfl⟩
    obtain ⟨s2, hs2⟩ : ∃ s, s = strOf (Lib.decDigits r) := ⟨_, rfl⟩
    obtain ⟨s3, hs3⟩ : ∃ s, s = strOf (Lib.decDigits m) := ⟨_, rfl⟩
    have x1 : ∀ w', (Op.stringOp .add s1 s2).run Tryd.prog w' = .ok (.string s3) w' := fun w' => by
      rw [hs1, hs2, hs3, e, run_string_add_sum w' _ _ (by rw [strOf_sz, strOf_sz]; omega), strOf_app]
    rw [← hs1] at h1
    rw [← hs2] at h2
    rw [← hs3]
    have H := Lib.hid (And.intro h1 h2)
    have hm0 : (0 : Int) ≤ (m : Int) := by omega
    clear hq hr h1 h2 l1 l2 e hs1 hs2 hs3 ih h
    go_enter Tryd.func68, Tryd.ntmps68
    go_wp2_with fail
    refine H.out.1.mono ?_
    rintro e w1 ⟨rfl, rfl⟩
    go_wp2_with fail
    refine H.out.2.mono ?_
    rintro e w1 ⟨rfl, rfl⟩
    go_wp2_with fail
    go_ret
    exact ⟨rfl, rfl⟩
theorem dg_all : ∀ n, DgAll n
  | 0 => fun m w h => absurd h (by omega)
  | n + 1 => fun m w h hm => dg_step m (fun m' w' h' => dg_all n m' w' (by omega)) hm w
set_option maxRecDepth 100000 in
set_option maxHeartbeats 4000000 in
theorem digits_any (c : Int) (hc : -1000 ≤ c ∧ c ≤ 1000) (w : World) : Calls Tryd.prog 68 #[.int .i64 c] w (DgRet w (strOf (Lib.itoa c))) := by
  obtain ⟨hc1, hc2⟩ := hc
  by_cases h : c < 0
  · obtain ⟨m, rfl⟩ : ∃ m : Nat, c = -(m : Int) := ⟨c.natAbs, by omega⟩
    have d0 : decide (-(m : Int) < 0) = true := decide_eq_true h
    have h1 := dg_all (m + 1) m w (by omega) (by omega)
    have e := Lib.itoa_neg m (by omega)
    have l1 := dec_len 7 m (by omega)
    obtain ⟨s1, hs1⟩ : ∃ s, s = strOf (Lib.decDigits m) := ⟨_, rfl⟩
    obtain ⟨s3, hs3⟩ : ∃ s, s = strOf (Lib.itoa (-(m : Int))) := ⟨_, rfl⟩
    have x1 : ∀ w', (Op.stringOp .add ⟨#[45]⟩ s1).run Tryd.prog w' = .ok (.string s3) w' := fun w' => by
      rw [hs1, hs3, e, run_string_add_sum w' _ _ (by rw [strOf_sz]; show 1 + _ ≤ _; omega)]
      exact congrArg (fun z => Result.ok (Value.string z) w') (strOf_app [45] _)
    rw [← hs1] at h1
    rw [← hs3]
    have H := Lib.hid h1
    have i1 : -(-(m : Int)) = (m : Int) := by omega
    clear h1 e l1 hs1 hs3
    go_enter Tryd.func68, Tryd.ntmps68
    go_wp2_with fail
    refine H.out.mono ?_
    rintro e w1 ⟨rfl, rfl⟩
    go_wp2_with fail
    go_ret
    exact ⟨rfl, rfl⟩
  · obtain ⟨m, rfl⟩ : ∃ m : Nat, c = (m : Int) := ⟨c.toNat, by omega⟩
    rw [Lib.itoa_nonneg]
    exact dg_all (m + 1) m w (by omega) (by omega)
end Go.Proofs.YthhhiiagppckhaaDoor
