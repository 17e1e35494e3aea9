/- The walk of the reference's Same at equal steps; conditions: none beyond its hypotheses. -/
import Derived.Test.YtmnanbcinfdbaaaGr6
namespace Go.Proofs.Ytmnanbcinfdbaaa
open Go.RowKit Go.Proofs.U
set_option linter.unusedVariables false

set_option maxRecDepth 100000 in
set_option maxHeartbeats 4000000 in
theorem rsame_eq (A B : Option Addr) (n m ca cb : Nat) (l : List Gr.Stp) (w : World) (ha : SP w A n l) (hb : SP w B m l) (hn : n ≤ 1000000000) :
    Calls Try.prog 11 #[.slice A n ca, .slice B m cb] w fun e w' => e = .returned (.bool true) ∧ Drawn w w' := by
  have hnm : n = m := ha.1.symm.trans hb.1
  subst hnm
  have hnn : ((n : Int) != (n : Int)) = false := by simp
  have hm : n ≤ maxLen ∨ True := .inr trivial
  go_enter Try.func11, Try.ntmps11
  go_wp2_with fail
  clear hnn
  go_loopg [5] n (fun r i wr => ∃ k : Nat, r + k = n ∧ i = .int .i64 k ∧ Drawn w wr)
  case atStart => exact ⟨0, rfl, rfl, Drawn.refl _⟩
  case round =>
    obtain ⟨k, hgk, rfl, hdr⟩ := hrel
    have HGK := Lib.hid hgk
    obtain ⟨q, rfl⟩ := hdr
    by_cases hlt : k < n
    · clear hgk
      obtain ⟨b, off, x, A', c', rfl, hbl, hx, s0, s1, s2, s3, hcd, hbs⟩ := ha.at_ hlt
      obtain ⟨b2, off2, x2, B', c2', rfl, hbl2, hx2, t0, t1, t2, t3, hcd2, hbs2⟩ := hb.at_ hlt
      have hxx : x2 = x := Option.some.inj (hx2.symm.trans hx)
      subst hxx
      obtain ⟨xk, xf, xl, xd⟩ := x2
      simp only at s0 s1 s2 s3 t0 t1 t2 t3 hbs hbs2
      have e1 : (xk != xk) = false := by simp
      have e2 : (xf != xf) = false := by simp
      have e3 : (xl != xl) = false := by simp
      have HS := Lib.hid (And.intro s0 (And.intro s1 (And.intro s2 s3)))
      have HT := Lib.hid (And.intro t0 (And.intro t1 (And.intro t2 t3)))
      clear hx hx2 s0 s1 s2 s3 t0 t1 t2 t3
      go_wp2_with fail
      refine wp_region_class (C := fun w' => Drawn w w') (by kernel_rfl) (by kernel_rfl) ⟨q + 1, rfl⟩ ?_
      repeat
        (refine wpQuiet_step (fun K hK => ?_)
         rw [if_pos (by rfl)]
         apply Exists.intro
         refine ⟨fun w' hw' => ?_, hK _ ?_⟩
         · have a0 := (hw'.cell _).trans HS.out.1
           have a1 := (hw'.cell _).trans HS.out.2.1
           have a2 := (hw'.cell _).trans HS.out.2.2.1
           have a3 := (hw'.cell _).trans HS.out.2.2.2
           have b0 := (hw'.cell _).trans HT.out.1
           have b1 := (hw'.cell _).trans HT.out.2.1
           have b2 := (hw'.cell _).trans HT.out.2.2.1
           have b3 := (hw'.cell _).trans HT.out.2.2.2
           have v1 := run_str (P := Try.prog) (hw'.bs hbs) 22 5 9 Try.underlying22 Try.underlying5 Try.underlying9 c'
           have v2 := run_str (P := Try.prog) (hw'.bs hbs2) 22 5 9 Try.underlying22 Try.underlying5 Try.underlying9 c2'
           go_simp
           first
             | done
             | rfl
         clear hK K
         go_simp)
      refine wpQuiet_nil ?_
      rintro w4 ⟨q4, rfl⟩
      go_wp2_with fail
      go_roundg (gk - 1)
      case measure => have := HGK.out; omega
      case rel => exact ⟨k + 1, by have := HGK.out; omega, by go_num, ⟨q4, rfl⟩⟩
    · obtain rfl : k = n := by omega
      go_wp2_with fail
      go_ret
      exact ⟨rfl, ⟨q, rfl⟩⟩
end Go.Proofs.Ytmnanbcinfdbaaa
