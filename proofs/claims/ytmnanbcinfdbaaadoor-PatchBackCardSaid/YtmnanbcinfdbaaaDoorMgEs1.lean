/- The walk of the example of layer 19; conditions: none. -/
import Derived.Test.YtmnanbcinfdbaaaDoorMgGr12
import Derived.Test.YtmnanbcinfdbaaaDoorMgSh7
import Derived.Lib.SlBytesConst
set_option linter.unusedSimpArgs false
set_option linter.unusedVariables false
section
namespace Go.Proofs.YtmnanbcinfdbaaaDoor
open Go.RowKit Go.Proofs.U
set_option linter.unusedVariables false
def ex19 : List Gr.Stp := [⟨1, 0, 8, []⟩, ⟨2, 0, 1, [120]⟩]
theorem ex19_bytes : Gr.wrP ex19 = [1, 1, 0, 1, 8, 1, 2, 1, 1, 120] := by decide +kernel
set_option maxRecDepth 100000 in
set_option maxHeartbeats 2000000 in
theorem lives19 (w : World) : Calls Tryd.prog 52 #[] w (Yes w) := by
  have hexb := ex19_bytes
  obtain ⟨R, hR⟩ : ∃ R, R = Gr.wrP ex19 := ⟨_, rfl⟩
  rw [← hR] at hexb
  have HR := Lib.hid (And.intro hR hexb)
  clear hR hexb
  have kc := fun (w : World) (C : Array Value) (n c : Nat) => Lib.run_convert_bytes_const (P := Tryd.prog) w 22 5 C n c Tryd.underlying22 Tryd.underlying5
  go_enter Tryd.func52, Tryd.ntmps52
  go_wp2_with fail
  have hb1 : Below w.heap.size w (w.alloc (.cells #[.int .u8 120] 5 (1, 2))) := (Below.refl _ _).alloc (Nat.le_refl _) _
  have hd1 : BS (w.alloc (.cells #[.int .u8 120] 5 (1, 2))) (w.alloc (.cells #[.int .u8 120] 5 (1, 2))).heap.size (some ⟨w.heap.size, 0, none⟩) 1 [120] := BS.fresh w 5 [120] (1, 2)
  have hz1 : (w.alloc (.cells #[.int .u8 120] 5 (1, 2))).heap.size = w.heap.size + 1 := by simp
  generalize (w.alloc (.cells #[.int .u8 120] 5 (1, 2))) = w1 at hb1 hd1 hz1 ⊢
  have hb2 : ∀ o, Below w1.heap.size w1 (w1.alloc o) := fun o => (Below.refl _ _).alloc (Nat.le_refl _) _
  rw [← hz1]
  have hk2 : ∀ cs, Blk (w1.alloc (.cells cs 68)) w1.heap.size 68 cs := fun cs => Blk.new _ _ _
  have hsp : SP (w1.alloc (.cells #[.int .i64 1, .int .i64 0, .int .i64 8, .slice none 0 0, .int .i64 2, .int .i64 0, .int .i64 1, .slice (some ⟨w.heap.size, 0, none⟩) 1 1] 68)) (some ⟨w1.heap.size, 0, none⟩) 2 ex19 := by
    refine ⟨rfl, fun _ => ⟨_, 0, rfl, (hk2 _).lt, fun j x hx => ?_⟩⟩
    match j, hx with
    | 0, hx =>
      simp only [ex19, List.getElem?_cons_zero, Option.some.injEq] at hx
      subst hx
      exact ⟨none, 0, (hk2 _).cell 0, (hk2 _).cell 1, (hk2 _).cell 2, (hk2 _).cell 3, Nat.le_refl _, BS.nil _ _ _⟩
    | 1, hx =>
      simp only [ex19, List.getElem?_cons_succ, List.getElem?_cons_zero, Option.some.injEq] at hx
      subst hx
      exact ⟨some ⟨w.heap.size, 0, none⟩, 1, (hk2 _).cell 4, (hk2 _).cell 5, (hk2 _).cell 6, (hk2 _).cell 7, Nat.le_refl _, (hd1.below (hb2 _)).more (hb2 _).size⟩
  have hbw2 := hb1.trans ((hb2 (.cells #[.int .i64 1, .int .i64 0, .int .i64 8, .slice none 0 0, .int .i64 2, .int .i64 0, .int .i64 1, .slice (some ⟨w.heap.size, 0, none⟩) 1 1] 68)).mono hb1.size)
  refine (dwrite_any _ 2 2 ex19 _ hsp (fun x hx => ?_) (by omega) (by decide)).mono ?_
  · simp only [ex19, List.mem_cons, List.not_mem_nil, or_false] at hx
    rcases hx with rfl | rfl <;> exact ⟨by decide, by decide, by decide⟩
  rintro e w3 ⟨A3, c3, rfl, hown3, hb3⟩
  rw [← HR.out.1] at hown3 ⊢
  have h10 : R.length = 10 := by rw [HR.out.2]; rfl
  rw [h10] at hown3 ⊢
  have hcv := run_str (w := w3) (P := Tryd.prog) hown3.bs 22 5 9 Tryd.underlying22 Tryd.underlying5 Tryd.underlying9 c3
  rw [HR.out.2] at hcv
  unfold strOf at hcv
  clear h10
  go_wp2_with fail
  go_ret
  refine ⟨?_, hbw2.trans (hb3.mono hbw2.size)⟩
  first | rfl | simp [strOf]
end Go.Proofs.YtmnanbcinfdbaaaDoor
end
