/- The walk of IntakePlays; conditions: none beyond its hypotheses. -/
import Derived.Test.YtaaajmonabhdgaaDoorLaw14
import Derived.Test.YtaaajmonabhdgaaDoorRfeed
import Derived.Test.YtaaajmonabhdgaaDoorSame14
namespace Go.Proofs.YtaaajmonabhdgaaDoor
open Go.RowKit Go.Proofs.U
set_option linter.unusedVariables false

/-- what holds at the head of a round of IntakePlays -/
def PlayAt (w0 : World) (g d : Nat) (wr : World) : Prop :=
  ∃ r e A c, Ink wr g r e ∧ (e = 0 → Part r) ∧ (e ≠ 0 → r = []) ∧ Blk wr d 65 #[.slice A r.length c, .int .i64 e] ∧ El wr w0.heap.size 5 (.slice A r.length c) r ∧ Below w0.heap.size w0 wr
theorem Goes.ends {a : List UInt8} {o r e} (h : Goes a o r e) : (e = 0 → Part r) ∧ (e ≠ 0 → r = []) := by
  induction h with
  | stop h => exact ⟨fun _ => h, fun h => absurd rfl h⟩
  | bad _ h _ => exact ⟨fun h' => absurd h' h, fun _ => rfl⟩
  | more _ _ ih => exact ih

theorem goes_bound {a : List UInt8} {o r e} (h : Goes a o r e) : 10 * o.length + r.length ≤ a.length := by
  induction h with
  | stop h => simp
  | bad _ h _ => simp
  | more h _ ih =>
    have := ftake_pos h
    rw [List.length_drop] at ih
    simp only [List.length_cons]
    omega
set_option maxHeartbeats 4000000 in
theorem intakePlays_any (A : Option Addr) (n c : Nat) (l : List (List UInt8)) (x : UInt8) (w : World) (h : SS w 0 w.heap.size A n l) (hbd : ∀ bs ∈ l, bs.length ≤ 140737488355328) (hn : n ≤ maxLen) (hT : Nib w) :
    Calls Tryd.prog 11 #[.slice A n c, .int .u8 (x.toNat : Int)] w (Yes w) := by
  unfold maxLen at hn
  by_cases hl : n ≤ 200 ∧ total l ≤ 10000
  · obtain ⟨hn2, htot⟩ := hl
    have hx := x.toNat_lt
    go_enter Tryd.func11, Tryd.ntmps11
    go_wp2_with fail
    refine (light_few A n c l 0 _ _ h hbd hn2 true (by simpa using htot)).mono ?_
    rintro e w' ⟨rfl, rfl⟩
    go_wp2_with fail
    refine (new_any w).mono ?_
    rintro e w1 ⟨g, rfl, hg, hink, hb1⟩
    go_wp2_with fail
    go_loopw [24] (fun i wr => ∃ k : Nat, k ≤ n ∧ i = .int .i64 k ∧ PlayAt w g w1.heap.size wr) (fun i _ => n - (intOf i).toNat)
    case atStart =>
      exact ⟨0, Nat.zero_le _, rfl, [], 0, none, 0, hink.below ((Below.refl _ _).alloc (Nat.le_refl _) _), fun _ => part_nil, fun _ => rfl, Blk.new _ _ _, El.nil _ _ _ _ _, hb1.alloc hb1.size _⟩
    case round =>
      have hgd : g < w1.heap.size := hink.lt
      have hd0 : w.heap.size ≤ w1.heap.size := hb1.size
      clear hink
      obtain ⟨k, hk, rfl, r0, e0, A0, c0, hink0, hre0, hrn0, hblk0, hel0, hbw0⟩ := hrel
      obtain ⟨wo, rfl⟩ : ∃ wo : World, wo = wr := ⟨_, rfl⟩
      by_cases hlt : k < n
      · obtain ⟨b, off, bs, A2, c2, rfl, _, hx, hcell, hc2, hbs0, _⟩ := (h.below hbw0).at_ hlt
        have hbsw : BS w w.heap.size A2 bs.length bs := hbs0.keep fun p hp => (hbw0.cell hp).symm
        have hbl := mem_total hx
        have hbl2 : bs.length ≤ 10000 := by omega
        have HX := Lib.hid hx
        clear hx hbl
        by_cases hi : k = x.toNat
        case' pos =>
          have t0 : ((k : Int) == (x.toNat : Int)) = true := by simp; omega
          clear hi
          go_wp2_with fail
          refine (reset_any g r0 e0 _ hink0).mono ?_
          rintro e' w2 ⟨rfl, hinkR, hgrR⟩
          have hblkR := hblk0.grown hgrR (by intro e; injection e; omega)
          have f0 := hblkR.frozen 0
          have f1 := hblkR.frozen 1
          have d0 : w2.cell? ⟨w1.heap.size, 0, none⟩ = some (.slice A0 r0.length c0) := hblkR.cell 0
          have d1 : w2.cell? ⟨w1.heap.size, 1, none⟩ = some (.int .i64 e0) := hblkR.cell 1
          go_wp2_with fail
          have hblk : Blk ((w2.setCell ⟨w1.heap.size, 0, none⟩ (.slice none 0 0)).setCell ⟨w1.heap.size, 1, none⟩ (.int .i64 0)) w1.heap.size 65 #[.slice none ([] : List UInt8).length 0, .int .i64 0] := (hblkR.set_ 0 _).set_ 1 _
          have hink : Ink ((w2.setCell ⟨w1.heap.size, 0, none⟩ (.slice none 0 0)).setCell ⟨w1.heap.size, 1, none⟩ (.int .i64 0)) g [] 0 := hinkR.grown (row := some w1.heap.size) only_two (by intro e; injection e; omega)
          have hel : El ((w2.setCell ⟨w1.heap.size, 0, none⟩ (.slice none 0 0)).setCell ⟨w1.heap.size, 1, none⟩ (.int .i64 0)) w.heap.size 5 (.slice none ([] : List UInt8).length 0) [] := El.nil _ _ _ _ _
          have hbw : Below w.heap.size w ((w2.setCell ⟨w1.heap.size, 0, none⟩ (.slice none 0 0)).setCell ⟨w1.heap.size, 1, none⟩ (.int .i64 0)) := ((below_of_only hbw0 hbw0.size hgrR (fun k hk => by injection hk; omega)).setCell (by simpa using hd0) _).setCell (by simpa using hd0) _
          have hre : (0 : Int) = 0 → Part [] := fun _ => part_nil
          have hrn : (0 : Int) ≠ 0 → ([] : List UInt8) = [] := fun _ => rfl
          generalize ((w2.setCell ⟨w1.heap.size, 0, none⟩ (.slice none 0 0)).setCell ⟨w1.heap.size, 1, none⟩ (.int .i64 0)) = wx at hblk hink hel hbw ⊢
          clear hblkR hinkR hgrR d0 d1 f0 f1 hblk0 hink0 hel0 hre0 hrn0
          obtain ⟨r, hr⟩ : ∃ r : List UInt8, r = [] := ⟨_, rfl⟩
          rw [← hr] at hblk hink hel hre
          obtain ⟨e, he⟩ : ∃ e : Int, e = 0 := ⟨_, rfl⟩
          rw [← he] at hblk hink
          obtain ⟨A1, hA1⟩ : ∃ A1 : Option Addr, A1 = none := ⟨_, rfl⟩
          rw [← hA1] at hblk hel
          obtain ⟨c1, hc1⟩ : ∃ c1 : Nat, c1 = 0 := ⟨_, rfl⟩
          rw [← hc1] at hblk hel
          have hre : e = 0 → Part r := fun _ => by rw [hr]; exact part_nil
          have hrn : e ≠ 0 → r = [] := fun _ => hr
          clear hr he hA1 hc1
          have hbs := hbs0
        case' neg =>
          have t0 : ((k : Int) == (x.toNat : Int)) = false := by simp; omega
          clear hi
          go_wp2_with fail
          have hblk := hblk0
          have hink := hink0
          have hel := hel0
          have hbw := hbw0
          have hre := hre0
          have hrn := hrn0
          obtain ⟨r, hr⟩ : ∃ r, r = r0 := ⟨_, rfl⟩
          obtain ⟨e, he⟩ : ∃ e, e = e0 := ⟨_, rfl⟩
          obtain ⟨A1, hA1⟩ : ∃ A1, A1 = A0 := ⟨_, rfl⟩
          obtain ⟨c1, hc1⟩ : ∃ c1, c1 = c0 := ⟨_, rfl⟩
          obtain ⟨wx, hwx⟩ : ∃ wx, wx = wo := ⟨_, rfl⟩
          rw [← hr, ← he, ← hA1, ← hc1, ← hwx] at hblk
          rw [← hr, ← he, ← hwx] at hink
          rw [← hr, ← hA1, ← hc1, ← hwx] at hel
          rw [← hwx] at hbw ⊢
          rw [← hr, ← he] at hre hrn
          clear hr he hA1 hc1 hwx hblk0 hink0 hel0 hre0 hrn0
        all_goals
          have hbsx := hbsw.below hbw
          have hTx := hT.stay hbw
          have hoff : Off g A2 bs.length := fun h0 a ha => by
            obtain ⟨b', off', hA, hlt', _⟩ := hbsw.2 h0
            rw [hA] at ha; injection ha with ha; subst ha; simp only; omega
          obtain ⟨tl, htl, hkx⟩ : ∃ tl : List UInt8, r.length + tl.length = 1410 ∧ Blk wx g 55 (inkL r tl e).toArray := hink
          have hink : Ink wx g r e := ⟨tl, htl, hkx⟩
          by_cases he : e = 0
          case' pos =>
            subst he
            have hp := hre rfl
            have hrl := part_lt r hp
            refine (feed_any g r wx hink hp A2 bs.length c2 bs (hbsx.more hbw.size) hoff (by omega) hc2 hTx).mono ?_
            rintro e' w3 ⟨o, r', e3, A3, c3, hgo, rfl, houts, hink3, hgr3⟩
            have hre3 := hgo.ends
            have hel3 := hel.typed hgr3 hkx (by decide)
            have hblk3 := hblk.grown hgr3 (by intro e; injection e; omega)
            have hbw3 := below_of_only hbw hbw.size hgr3 (fun k hk => by injection hk; omega)
            have d0 : w3.cell? ⟨w1.heap.size, 0, none⟩ = some (.slice A1 r.length c1) := hblk3.cell 0
            have d1 : w3.cell? ⟨w1.heap.size, 1, none⟩ = some (.int .i64 0) := hblk3.cell 1
            have hol := goes_bound hgo
            rw [List.length_append] at hol
            have hol : o.length ≤ 140737488355328 := by omega
            have hGO := Lib.hid hgo
            have hRE := Lib.hid hre3
            clear hgo hre3 hre hrn
            go_wp2_with fail
            have hfeed := rfeed_any A1 r.length c1 r A2 bs.length c2 bs w3 hel3.open_.1 ((hbsw.below hbw3).more hbw3.size) (by omega) (by omega)
            unfold rk at hfeed
            refine hfeed.mono ?_
            rintro e' w4 ⟨o', r'', e4, A4, c4, A5, c5, hgo', rfl, hel4, houts4, hb4⟩
            obtain ⟨rfl, rfl, rfl⟩ := hGO.out.det hgo'
            clear hgo' hfeed
            have hink4 := hink3.below hb4
            have hblk4 := hblk3.stay hb4
            have hbw4 := hbw3.trans (hb4.mono hbw3.size)
            have houts5 := houts.below hb4
            have f0 := hblk4.frozen 0
            have f1 := hblk4.frozen 1
            have hz := hblk4.lt
            unfold rk
            have d0 : w4.cell? ⟨w1.heap.size, 0, none⟩ = some (.slice A1 r.length c1) := hblk4.cell 0
            have d1 : w4.cell? ⟨w1.heap.size, 1, none⟩ = some (.int .i64 0) := hblk4.cell 1
            go_wp2_with fail
            have hel4 := hel4.lo hbw3.size
            have hs5 := houts5.ss
            have hs4 := houts4.ss
            have hsx : ∀ w5, w4.grownBy w5 (some w1.heap.size) → SS w5 wx.heap.size w4.heap.size A3 o.length o ∧ SS w5 w3.heap.size w4.heap.size A5 o.length o := fun w5 hb5 =>
              ⟨hs5.only hb5 (Nat.le_refl _) (fun k hk => by injection hk with hk; subst hk; left; exact hblk.lt), hs4.only hb5 (Nat.le_refl _) (fun k hk => by injection hk with hk; subst hk; left; exact hblk3.lt)⟩
            clear hs5 hs4
          case' neg =>
            refine (feedBad_any g r e he _ wx hink).mono ?_
            rintro e' w' ⟨rfl, rfl⟩
            have hr0 := hrn he
            have d0 : wx.cell? ⟨w1.heap.size, 0, none⟩ = some (.slice A1 r.length c1) := hblk.cell 0
            have d1 : wx.cell? ⟨w1.heap.size, 1, none⟩ = some (.int .i64 e) := hblk.cell 1
            have HR0 := Lib.hid hr0
            have HE0 := Lib.hid he
            clear hr0 he hre hrn
            go_wp2_with fail
            have hfeed := rfeedBad_any A1 r.length c1 e HE0.out (.slice A2 bs.length c2) wx
            unfold rk at hfeed
            refine hfeed.mono ?_
            rintro e' w4 ⟨rfl, hb4⟩
            clear hfeed
            have hink4 := hink.below (hb4)
            have hblk4 := hblk.stay hb4
            have hbw4 := hbw.trans (hb4.mono hbw.size)
            have f0 := hblk4.frozen 0
            have f1 := hblk4.frozen 1
            have hz := hblk4.lt
            have d0 : w4.cell? ⟨w1.heap.size, 0, none⟩ = some (.slice A1 r.length c1) := hblk4.cell 0
            have d1 : w4.cell? ⟨w1.heap.size, 1, none⟩ = some (.int .i64 e) := hblk4.cell 1
            go_wp2_with fail
            obtain ⟨A4, hA4⟩ : ∃ A4, A4 = A1 := ⟨_, rfl⟩
            obtain ⟨c4, hc4⟩ : ∃ c4, c4 = c1 := ⟨_, rfl⟩
            obtain ⟨r', hr'⟩ : ∃ r', r' = r := ⟨_, rfl⟩
            obtain ⟨e3, he3⟩ : ∃ e3, e3 = e := ⟨_, rfl⟩
            have houts5 : Outs w4 w4.heap.size 56 5 none ([] : List (List UInt8)).length 0 [] := Outs.nil _ _ _ _
            have hRE : Hid ((e = 0 → Part r) ∧ (e ≠ 0 → r = [])) := Lib.hid ⟨fun h => absurd h HE0.out, fun _ => HR0.out⟩
            have hel4 := hel.below hb4
            rw [← hA4, ← hc4, ← hr'] at hel4
            rw [← hr', ← he3] at hRE hink4
            rw [← hA4, ← hc4, ← hr', ← he3]
            clear hA4 hc4 hr' he3
            have hsx : ∀ w5, w4.grownBy w5 (some w1.heap.size) → SS w5 0 0 none 0 [] ∧ SS w5 0 0 none 0 [] := fun w5 hb5 => ⟨SS.nil _ _ _ _, SS.nil _ _ _ _⟩
            have hol : (0 : Nat) ≤ 140737488355328 := Nat.zero_le _
          all_goals
            have hb5 : w4.grownBy (((w4.setCell ⟨w1.heap.size, 0, none⟩ (.slice A4 r'.length c4)).setCell ⟨w1.heap.size, 1, none⟩ (.int .i64 e3)).alloc (.cells #[.slice A4 r'.length c4, .int .i64 e3] 65)) (some w1.heap.size) := only_alloc only_two _
            have hblk5 : Blk (((w4.setCell ⟨w1.heap.size, 0, none⟩ (.slice A4 r'.length c4)).setCell ⟨w1.heap.size, 1, none⟩ (.int .i64 e3)).alloc (.cells #[.slice A4 r'.length c4, .int .i64 e3] 65)) w1.heap.size 65 #[.slice A4 r'.length c4, .int .i64 e3] := ((hblk4.set_ 0 _).set_ 1 _).alloc _
            generalize (((w4.setCell ⟨w1.heap.size, 0, none⟩ (.slice A4 r'.length c4)).setCell ⟨w1.heap.size, 1, none⟩ (.int .i64 e3)).alloc (.cells #[.slice A4 r'.length c4, .int .i64 e3] 65)) = w5 at hb5 hblk5 ⊢
            have hink5 := hink4.grown hb5 (by intro e; injection e; omega)
            have hel5 := hel4.typed hb5 hblk4 (by decide)
            have hbw5 := below_of_only hbw4 hbw4.size hb5 (fun k hk => by injection hk; omega)
            have hrl : r'.length < 1410 := by
              by_cases h0 : e3 = 0
              · exact part_lt _ (hRE.out.1 h0)
              · rw [hRE.out.2 h0]; simp
            have k0 : (e3 != e3) = false := by simp
            have k1 : decide ((1410 : Int) ≤ (r'.length : Int)) = false := by simp; omega
            have HH := Lib.hid (And.intro hink5 (And.intro hblk5 (hsx _ hb5)))
            refine wp_region_class (C := fun w' => Drawn w5 w') (by kernel_rfl) (by kernel_rfl) (Drawn.one _) ?_
            repeat
              (refine wpQuiet_step (fun K hK => ?_)
               rw [if_pos (by rfl)]
               apply Exists.intro
               refine ⟨fun w' hw' => ?_, hK _ ?_⟩
               · have b0 : w'.cell? ⟨w1.heap.size, 0, none⟩ = some (.slice A4 r'.length c4) := (hw'.cell _).trans (HH.out.2.1.cell 0)
                 have b1 : w'.cell? ⟨w1.heap.size, 1, none⟩ = some (.int .i64 e3) := (hw'.cell _).trans (HH.out.2.1.cell 1)
                 have b2 : Ink w' g r' e3 := by obtain ⟨q, rfl⟩ := hw'; exact HH.out.1
                 go_simp
                 first
                   | done
                   | rfl
                   | (refine (samess_any _ _ _ _ _ _ _ _ _ _ w' (HH.out.2.2.1.below (hw'.below _)) (HH.out.2.2.2.below (hw'.below _)) hol).mono ?_
                      rintro e w1 ⟨rfl, hb1⟩
                      exact ⟨rfl, hw'.trans hb1⟩)
                   | (refine (held_any g _ _ w' b2).mono ?_
                      rintro e w1 ⟨rfl, rfl⟩
                      exact ⟨rfl, hw'⟩)
                   | (refine (fault_any g _ _ w' b2).mono ?_
                      rintro e w1 ⟨rfl, rfl⟩
                      exact ⟨rfl, hw'⟩)
               clear hK K
               go_simp)
            refine wpQuiet_nil ?_
            intro w6 hw6
            go_wp2_with fail
            go_roundw
            case rel => exact ⟨k + 1, by omega, by go_num, r', e3, A4, c4, by obtain ⟨q, rfl⟩ := hw6; exact hink5, hRE.out.1, hRE.out.2, by obtain ⟨q, rfl⟩ := hw6; exact hblk5, by obtain ⟨q, rfl⟩ := hw6; exact hel5, hbw5.trans (hw6.below _)⟩
            case measure => simp [intOf]; omega
      · go_wp2_with fail
        refine (lives14 _ (hT.stay hbw0)).mono ?_
        rintro e w5 ⟨rfl, hb5⟩
        go_wp2_with fail
        go_ret
        exact ⟨by simp, hbw0.trans (hb5.mono hbw0.size)⟩
  · have hlight : Calls Tryd.prog 38 #[.slice A n c] w fun e w' => e = .returned (.bool false) ∧ w = w' := by
      by_cases h2 : n ≤ 200
      · exact light_few A n c l 0 _ _ h hbd h2 false (by simp; omega)
      · exact light_many A n c l 0 _ _ h (by omega) (by omega)
    go_enter Tryd.func11, Tryd.ntmps11
    go_wp2_with fail
    refine hlight.mono ?_
    rintro e w' ⟨rfl, rfl⟩
    go_wp2_with fail
    refine (lives14 _ hT).mono ?_
    rintro e w5 ⟨rfl, hb5⟩
    go_wp2_with fail
    go_ret
    exact ⟨by simp, hb5⟩
end Go.Proofs.YtaaajmonabhdgaaDoor
