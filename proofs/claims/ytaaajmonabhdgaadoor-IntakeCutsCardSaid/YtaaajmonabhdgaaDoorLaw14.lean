/- The walks of the statements of layer 14; conditions: none beyond their hypotheses. -/
import Derived.Test.YtaaajmonabhdgaaDoorFeed
namespace Go.Proofs.YtaaajmonabhdgaaDoor
open Go.RowKit Go.Proofs.U
set_option linter.unusedVariables false

theorem own_off {w : World} {base n c g : Nat} {e : TypeId} {A : Option Addr} {bs : List UInt8} (h : Own w base e A n c bs) (hg : g < base) (m : Nat) : Off g A m := by
  intro _ a ha hb
  have := (World.ownsRow.lt h a.block (by rw [ha]; rfl)).1
  omega
theorem own_only {w w' : World} {base n c : Nat} {e : TypeId} {A : Option Addr} {bs : List UInt8} {row : Option Nat} (h : Own w base e A n c bs) (hg : w.grownBy w' row) (hr : ∀ k, row = some k → k < base) : Own w' base e A n c bs := by
  refine World.ownsRow.kept h hg ?_
  cases hA : (Value.slice A n c).ownBlock with
  | none => exact .inl rfl
  | some k => exact .inr fun e => by have := hr k e.symm; have := (World.ownsRow.lt h k hA).1; omega
theorem below_of_only {B : Nat} {w0 w w' : World} {row : Option Nat} (h : Below B w0 w) (hB : B ≤ w.heap.size) (hg : w.grownBy w' row) (hr : ∀ k, row = some k → B ≤ k) : Below B w0 w' :=
  h.grown hg hB hr

set_option maxHeartbeats 1000000 in
theorem lives14 (w : World) (hT : Nib w) : Calls Tryd.prog 32 #[] w (Yes w) := by
  have ht := ftake_wrap [] [] (by simp)
  rw [List.append_nil] at ht
  have hF := fwrap_len [] (by simp)
  have hc : (fwrap []).2 = 0 := by rw [fwrap_ok [] (by simp)]
  obtain ⟨F, hFF⟩ : ∃ F, (fwrap []).1 = F := ⟨_, rfl⟩
  rw [hFF] at ht hF
  have hF10 : F.length = 10 := hF
  have hp4 : Part (F.take 4) := by
    rcases ftake_cases (F.take 4) with ⟨_, h⟩ | ⟨h6, _⟩ | ⟨h6, _⟩ | ⟨h6, _⟩ | ⟨h6, _⟩
    · unfold Part; rw [h]
    all_goals exfalso; simp at h6; omega
  have g1 : Goes ([] ++ F.take 4) [] (F.take 4) 0 := .stop hp4
  have g2 : Goes (F.take 4 ++ F.drop 4) [[]] [] 0 := by
    rw [List.take_append_drop]
    refine .more ht ?_
    rw [List.drop_of_length_le (by omega)]
    exact .stop part_nil
  have Hc := Lib.hid hc
  have HFF := Lib.hid hFF
  have HF := Lib.hid hF10
  clear ht hF hc hFF hF10
  go_enter Tryd.func32, Tryd.ntmps32
  go_wp2_with fail
  refine (new_any w).mono ?_
  rintro e w1 ⟨g, rfl, hg, hink, hb1⟩
  go_wp2_with fail
  refine (rwrap_any none 0 0 [] _ (BS.nil _ _ _) (by omega)).mono ?_
  rintro e w2 ⟨A2, c2, rfl, hown2, hb2⟩
  rw [HFF.out] at hown2
  rw [HFF.out, Hc.out]
  rw [HF.out] at hown2
  rw [HF.out]
  have hg1 := hink.lt
  have hle := hown2.le
  have hbs2 := hown2.bs
  obtain ⟨x2, rfl, _, _⟩ := hown2.form (by omega)
  go_wp2_with fail
  refine (feed_any g [] _ (hink.below hb2) part_nil _ 4 c2 (F.take 4) (hbs2.take (by omega)) (own_off hown2 hg1 4) (by omega) (by omega) ((hT.stay hb1).stay hb2)).mono ?_
  rintro e w3 ⟨o3, r3, e3, A3, c3, hgo3, rfl, houts3, hink3, hgr3⟩
  obtain ⟨rfl, rfl, rfl⟩ := g1.det hgo3
  have hb02 := hb1.trans (hb2.mono hb1.size)
  have hb03 := below_of_only hb02 hb02.size hgr3 (fun k hk => by injection hk with hk; omega)
  have hown3 := own_only hown2 hgr3 (fun k hk => by injection hk with hk; omega)
  have hbs3 := hown3.bs
  have hl4 : (F.take 4).length = 4 := by simp [HF.out]
  go_wp2_with fail
  refine (feed_any g (F.take 4) _ hink3 hp4 _ 6 (c2 - 4) (F.drop 4) (hbs3.drop (k := 4) (by omega)) (fun h a ha => by injection ha with ha; subst ha; simp only; omega) (by omega) (by omega) (hT.stay hb03)).mono ?_
  rintro e w4 ⟨o4, r4, e4, A4, c4, hgo4, rfl, houts4, hink4, hgr4⟩
  obtain ⟨rfl, rfl, rfl⟩ := g2.det hgo4
  have hb04 := below_of_only hb03 hb03.size hgr4 (fun k hk => by injection hk with hk; omega)
  go_wp2_with fail
  refine (held_any g [] 0 _ hink4).mono ?_
  rintro e w' ⟨rfl, rfl⟩
  go_wp2_with fail
  go_ret
  exact ⟨by simp, hb04⟩

set_option maxHeartbeats 1000000 in
theorem intakeNobody_any (A : Option Addr) (n c : Nat) (w : World) (hn : n ≤ maxLen) (hT : Nib w) :
    Calls Tryd.prog 12 #[.slice A n c] w (Yes w) := by
  unfold maxLen at hn
  by_cases hl : n ≤ 1000
  · have hg : decide ((1000 : Int) < (n : Int)) = false := by simp; omega
    go_enter Tryd.func12, Tryd.ntmps12
    go_wp2_with fail
    refine (nilReset_any _).mono ?_
    rintro e w' ⟨rfl, rfl⟩
    go_wp2_with fail
    refine (feedNil_any _ _).mono ?_
    rintro e w' ⟨rfl, rfl⟩
    go_wp2_with fail
    refine (nilHeld_any _).mono ?_
    rintro e w' ⟨rfl, rfl⟩
    go_wp2_with fail
    refine (nilFault_any _).mono ?_
    rintro e w' ⟨rfl, rfl⟩
    go_wp2_with fail
    refine (lives14 _ hT).mono ?_
    rintro e w5 ⟨rfl, hb5⟩
    go_wp2_with fail
    go_ret
    exact ⟨by simp, hb5⟩
  · have hg : decide ((1000 : Int) < (n : Int)) = true := by simp; omega
    go_enter Tryd.func12, Tryd.ntmps12
    go_wp2_with fail
    refine (lives14 _ hT).mono ?_
    rintro e w5 ⟨rfl, hb5⟩
    go_wp2_with fail
    go_ret
    exact ⟨by simp, hb5⟩
end Go.Proofs.YtaaajmonabhdgaaDoor
