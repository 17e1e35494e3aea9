/- The walks of a patch's End and of the example of layer 20; PatchNobody; conditions: none beyond their hypotheses. -/
import Derived.Test.YtmnanbcinfdbaaaPt9
import Derived.Test.YtmnanbcinfdbaaaPt10
namespace Go.Proofs.Ytmnanbcinfdbaaa
open Go.RowKit Go.Proofs.U
set_option linter.unusedVariables false
theorem below_only {B : Nat} {w0 w w' : World} {row : Option Nat} (h : Below B w0 w) (hB : B ≤ w.heap.size) (hg : w.grownBy w' row) (hr : ∀ k, row = some k → B ≤ k) : Below B w0 w' :=
  h.grown hg hB hr
def endP (f nh : Nat) : Nat := if f = 0 ∧ 0 < nh then 11 else f
set_option maxHeartbeats 400000 in
theorem end_any {w : World} {g : Nat} {Ab Ah : Option Addr} {nb cb nh ch : Nat} {o : Int} {f : Nat} (h : Blk w g 79 (ptC Ab nb cb Ah nh ch o f)) : Calls Try.prog 26 #[.pointer (some ⟨g, 0, none⟩)] w fun e w' => e = .returned (.int .i64 ((endP f nh : Nat) : Int)) ∧ Drawn w w' := by
  obtain ⟨E, hE⟩ : ∃ E, E = endP f nh := ⟨_, rfl⟩
  rw [← hE]
  have HE := Lib.hid hE
  clear hE
  by_cases hf : f = 0
  · subst hf
    by_cases hn : 0 < nh
    · have e1 : E = 11 := by rw [HE.out]; simp [endP, hn]
      subst e1
      go_enter Try.func26, Try.ntmps26
      go_wp2_with fail
      refine (fault_any h).mono ?_
      rintro e w1 ⟨rfl, hd1⟩
      go_wp2_with fail
      refine (held_any (show Blk w1 g 79 (ptC Ab nb cb Ah nh ch o ((0 : Nat) : Int)) from by obtain ⟨q, rfl⟩ := hd1; exact h.drewN q)).mono ?_
      rintro e w2 ⟨rfl, hd2⟩
      go_wp2_with fail
      go_ret
      exact ⟨rfl, hd1.trans hd2⟩
    · have e1 : E = 0 := by rw [HE.out]; simp [endP, hn]
      subst e1
      go_enter Try.func26, Try.ntmps26
      go_wp2_with fail
      refine (fault_any h).mono ?_
      rintro e w1 ⟨rfl, hd1⟩
      have h1 : Blk w1 g 79 (ptC Ab nb cb Ah nh ch o ((0 : Nat) : Int)) := by obtain ⟨q, rfl⟩ := hd1; exact h.drewN q
      go_wp2_with fail
      refine (held_any h1).mono ?_
      rintro e w2 ⟨rfl, hd2⟩
      have h2 : Blk w2 g 79 (ptC Ab nb cb Ah nh ch o ((0 : Nat) : Int)) := by obtain ⟨q, rfl⟩ := hd2; exact h1.drewN q
      go_wp2_with fail
      refine (fault_any h2).mono ?_
      rintro e w3 ⟨rfl, hd3⟩
      go_wp2_with fail
      go_ret
      exact ⟨rfl, (hd1.trans hd2).trans hd3⟩
  · have e1 : E = f := by rw [HE.out]; simp [endP, hf]
    subst e1
    have b1 : ((E : Int) == 0) = false := by rw [beq_eq_false_iff_ne]; omega
    go_enter Try.func26, Try.ntmps26
    go_wp2_with fail
    refine (fault_any h).mono ?_
    rintro e w1 ⟨rfl, hd1⟩
    have h1 : Blk w1 g 79 (ptC Ab nb cb Ah nh ch o (E : Int)) := by obtain ⟨q, rfl⟩ := hd1; exact h.drewN q
    go_wp2_with fail
    refine (fault_any h1).mono ?_
    rintro e w2 ⟨rfl, hd2⟩
    go_wp2_with fail
    go_ret
    exact ⟨rfl, hd1.trans hd2⟩
theorem PtS.below {w w' : World} {g : Nat} {Ab : Option Addr} {nb cb : Nat} {base hs : List UInt8} {o f : Nat} (h : PtS w g Ab nb cb base hs o f) (hb : Below w.heap.size w w') : PtS w' g Ab nb cb base hs o f := by
  obtain ⟨Ah, ch, h1, h2, h3, h4⟩ := h
  exact ⟨Ah, ch, h1.stay hb, h2.below (hb.mono (Nat.le_of_lt h1.lt)), h3.below hb, h4⟩
theorem ex20a : Gr.feedP 4 [97, 98, 99, 100] [] 0 0 [1, 1, 1, 1, 1] = ([], 0, [1, 1, 1, 1, 1], 0) := by decide +kernel
theorem ex20b : Gr.feedP 4 [97, 98, 99, 100] [1, 1, 1, 1, 1] 0 0 [2, 1, 2, 1, 1, 120] = ([98, 99, 120], 3, [], 0) := by decide +kernel
set_option maxRecDepth 100000 in
set_option maxHeartbeats 2000000 in
theorem lives20 (w : World) : Calls Try.prog 21 #[] w (Yes w) := by
  have kc := fun (w : World) (C : Array Value) (n c : Nat) => Lib.run_convert_bytes_const (P := Try.prog) w 22 5 C n c Try.underlying22 Try.underlying5
  go_enter Try.func21, Try.ntmps21
  go_wp2_with fail
  have hb1 : Below w.heap.size w (w.alloc (.cells #[.int .u8 97, .int .u8 98, .int .u8 99, .int .u8 100] 5 (4, 5))) := (Below.refl _ _).alloc (Nat.le_refl _) _
  have hd1 : BS (w.alloc (.cells #[.int .u8 97, .int .u8 98, .int .u8 99, .int .u8 100] 5 (4, 5))) (w.alloc (.cells #[.int .u8 97, .int .u8 98, .int .u8 99, .int .u8 100] 5 (4, 5))).heap.size (some ⟨w.heap.size, 0, none⟩) 4 [97, 98, 99, 100] := BS.fresh w 5 [97, 98, 99, 100] (4, 5)
  generalize (w.alloc (.cells #[.int .u8 97, .int .u8 98, .int .u8 99, .int .u8 100] 5 (4, 5))) = w1 at hb1 hd1 ⊢
  refine (new_any _ 4 4 w1 (by omega)).mono ?_
  rintro e w2 ⟨rfl, hw2⟩
  have hb2 : Below w1.heap.size w1 w2 := by rw [hw2]; exact (Below.refl _ _).alloc (Nat.le_refl _) _
  have hp2 : PtS w2 w1.heap.size (some ⟨w.heap.size, 0, none⟩) 4 4 [97, 98, 99, 100] [] 0 0 := by
    rw [hw2]
    exact ⟨none, 0, Blk.new _ _ _, hd1.below (hw2 ▸ hb2), Dat.nil _ _ _, Nat.le_refl _⟩
  have hz2 : w1.heap.size < w2.heap.size := by rw [hw2]; simp
  have hbw2 := hb1.trans (hb2.mono hb1.size)
  have hgw := hb1.size
  clear hw2 hd1 hb2 hb1
  generalize w1.heap.size = g at hp2 hz2 hgw ⊢
  generalize hAb : (some ⟨w.heap.size, 0, none⟩ : Option Addr) = Ab at hp2 ⊢
  clear hAb
  have HP2 := Lib.hid hp2
  clear hp2
  have hal : ∀ o, Below w2.heap.size w2 (w2.alloc o) := fun o => (Below.refl _ _).alloc (Nat.le_refl _) o
  have hda : BS (w2.alloc (.cells #[.int .u8 1, .int .u8 1, .int .u8 1, .int .u8 1, .int .u8 1] 5)) (w2.alloc (.cells #[.int .u8 1, .int .u8 1, .int .u8 1, .int .u8 1, .int .u8 1] 5)).heap.size (some ⟨w2.heap.size, 0, none⟩) 5 [1, 1, 1, 1, 1] := BS.fresh w2 5 [1, 1, 1, 1, 1] (0, 0)
  have HA := Lib.hid (And.intro hal hda)
  clear hal hda
  go_wp2_with fail
  refine (feed_ok g Ab 4 4 [97, 98, 99, 100] [] 0 _ 5 5 [1, 1, 1, 1, 1] _ (HP2.out.below (HA.out.1 _)) (by omega) (by omega) (by omega) HA.out.2 (by omega) (by simp)).mono ?_
  rw [show ((4 : Nat) : Int) = 4 from rfl, ex20a]
  rintro e w4 ⟨A4, c4, rfl, hown4, hp4, hg4⟩
  simp only [List.length_nil] at hown4 hp4 ⊢
  have hbw4 : Below w.heap.size w w4 := below_only (hbw2.trans ((HA.out.1 _).mono hbw2.size)) (by have := hbw2.size; have := (HA.out.1 (.cells #[.int .u8 1, .int .u8 1, .int .u8 1, .int .u8 1, .int .u8 1] 5)).size; omega) hg4 (fun k hk => by injection hk with hk; omega)
  have hal : ∀ o, Below w4.heap.size w4 (w4.alloc o) := fun o => (Below.refl _ _).alloc (Nat.le_refl _) o
  have hda : BS (w4.alloc (.cells #[.int .u8 2, .int .u8 1, .int .u8 2, .int .u8 1, .int .u8 1, .int .u8 120] 5)) (w4.alloc (.cells #[.int .u8 2, .int .u8 1, .int .u8 2, .int .u8 1, .int .u8 1, .int .u8 120] 5)).heap.size (some ⟨w4.heap.size, 0, none⟩) 6 [2, 1, 2, 1, 1, 120] := BS.fresh w4 5 [2, 1, 2, 1, 1, 120] (0, 0)
  have HB := Lib.hid (And.intro hal hda)
  have HP4 := Lib.hid hp4
  clear hal hda hp4 hown4
  go_wp2_with fail
  refine (feed_ok g Ab 4 4 [97, 98, 99, 100] [1, 1, 1, 1, 1] 0 _ 6 6 [2, 1, 2, 1, 1, 120] _ (HP4.out.below (HB.out.1 _)) (by omega) (by omega) (by omega) HB.out.2 (by omega) (by simp)).mono ?_
  rw [show ((4 : Nat) : Int) = 4 from rfl, ex20b]
  rintro e w6 ⟨A6, c6, rfl, hown6, hp6, hg6⟩
  simp only [List.length_cons, List.length_nil, Nat.zero_add] at hown6 hp6 ⊢
  have hbw6 : Below w.heap.size w w6 := below_only (hbw4.trans ((HB.out.1 _).mono hbw4.size)) (by have := hbw4.size; have := (HB.out.1 (.cells #[.int .u8 2, .int .u8 1, .int .u8 2, .int .u8 1, .int .u8 1, .int .u8 120] 5)).size; omega) hg6 (fun k hk => by injection hk with hk; omega)
  obtain ⟨Ah, ch, hk6, _, _, _⟩ := hp6
  have hcv := run_str (w := w6) (P := Try.prog) hown6.bs 22 5 9 Try.underlying22 Try.underlying5 Try.underlying9 c6
  unfold strOf at hcv
  have HK := Lib.hid hk6
  clear hk6 hown6
  go_wp2_with fail
  refine (end_any HK.out).mono ?_
  rintro e w7 ⟨rfl, hd7⟩
  have hk7 : Blk w7 g 79 (ptC Ab 4 4 Ah ([] : List UInt8).length ch ((3 : Nat) : Int) ((0 : Nat) : Int)) := by obtain ⟨q, rfl⟩ := hd7; exact HK.out.drewN q
  have HK7 := Lib.hid hk7
  clear hk7
  have hend : ((endP 0 0 : Nat) : Int) = 0 := by decide
  simp only [List.length_nil, hend]
  go_wp2_with fail
  refine (out_any HK7.out).mono ?_
  rintro e w8 ⟨rfl, hd8⟩
  go_wp2_with fail
  go_ret
  refine ⟨?_, hbw6.trans ((hd7.trans hd8).below _)⟩
  first | rfl | simp [strOf]
set_option maxRecDepth 100000 in
set_option maxHeartbeats 2000000 in
theorem patchNobody_any (A : Option Addr) (n c : Nat) (w : World) : Calls Try.prog 6 #[.slice A n c] w (Yes w) := by
  go_enter Try.func6, Try.ntmps6
  go_wp2_with fail
  refine (feed_nil _ _ _ _).mono ?_
  rintro e w1 ⟨rfl, hd1⟩
  go_wp2_with fail
  refine (end_nil _).mono ?_
  rintro e w2 ⟨rfl, hd2⟩
  go_wp2_with fail
  refine (fault_nil _).mono ?_
  rintro e w' ⟨rfl, rfl⟩
  go_wp2_with fail
  refine (out_nil _).mono ?_
  rintro e w' ⟨rfl, rfl⟩
  go_wp2_with fail
  refine (held_nil _).mono ?_
  rintro e w' ⟨rfl, rfl⟩
  go_wp2_with fail
  refine (lives20 _).mono ?_
  rintro e w3 ⟨rfl, hb3⟩
  go_wp2_with fail
  go_ret
  exact ⟨rfl, ((hd1.trans hd2).below _).trans (hb3.mono ((hd1.trans hd2).below w.heap.size).size)⟩
end Go.Proofs.Ytmnanbcinfdbaaa
