/- The walk of the example of layer 33; conditions: none beyond its hypotheses. -/
import Derived.Test.YthhhiiagppckhaaGreatDoorMgLn4
set_option linter.unusedSimpArgs false
set_option linter.unusedVariables false
section
namespace Go.Proofs.YthhhiiagppckhaaGreatDoor
open Go.RowKit Go.Proofs.U Go.Proofs.Bp
set_option linter.unusedVariables false

def M33 : Ms.Msg := {Ms.zero with kind := 14, session := 3, n := 4}
theorem sayB_ok {m : Ms.Msg} (h : Ms.check m = 0) : sayB m = (fwrap (Ms.enc m)).1 := by
  rw [fwrap_ok _ (Ms.enc_len h)]; unfold sayB; rw [if_pos h]
theorem frames_one (p : List UInt8) : frames [p] = (fwrap p).1 := by unfold frames; simp
theorem Nib.only' {w w' : World} {g : Nat} {P : List UInt8} {e : Int} (h : Nib w) (hk : Ink w g P e) (hg : w.grownBy w' (some g)) : Nib w' := h.only hg (hk.ne_nib h)
/-- what holds at a round's head of the example -/
def LivAt (w3 : World) (gb : Nat) (X : List UInt8) (L : Nat) (es : List (List UInt8)) (rem : Nat) (n idx : Value) (wr : World) : Prop :=
  ∃ (k : Nat) (P : List UInt8) (es1 es2 : List (List UInt8)), rem + k = L ∧ idx = .int .i64 (k : Int) ∧ n = .int .i64 (es1.length : Int) ∧ es = es1 ++ es2 ∧ P ++ X.drop k = frames es2 ∧ Part P ∧ Ink wr gb P 0 ∧ w3.grownBy wr (some gb)
set_option maxRecDepth 100000 in
set_option maxHeartbeats 4000000 in
theorem lives33_any (w : World) (hT : Nib w) : Calls Tryz.prog 5 #[] w fun e w' => e = .returned (.bool true) ∧ Below w.heap.size w w' := by
  have hck : Ms.check M33 = 0 := by decide +kernel
  have hel : (Ms.enc M33).length = 6 := by decide +kernel
  have hlen : (sayB M33).length = 16 := by rw [sayB_ok hck, fwrap_len _ (by omega), hel]
  have hrd : Ms.readP (Ms.enc M33) = (Ms.plain M33, 0) := Ms.read_enc hck ⟨by decide, by decide, by decide, by decide, by decide, by intro x hx; cases hx⟩
  have hfr := (frames_one (Ms.enc M33)).trans (sayB_ok hck).symm
  have hsay := fun g P w' (hk : Ink w' g P 0) (hT' : Nib w') => say_any g P 0 M33 (.agg (mCells M33 none 0 none 0)) w' ⟨none, 0, none, 0, rfl, Dat.nil _ _ _, Nat.le_refl _, RwS.nil _ _ _, Nat.le_refl _⟩ (by decide) ⟨by decide, by decide, by decide, by decide, by decide, by intro x hx; cases hx⟩ (.inl (by rw [hel]; decide)) hk hT'
  obtain ⟨X, hX⟩ : ∃ X, X = sayB M33 := ⟨_, rfl⟩
  obtain ⟨SE, hSE⟩ : ∃ SE, SE = sayE M33 := ⟨_, rfl⟩
  obtain ⟨E0, hE0⟩ : ∃ E0, E0 = Ms.enc M33 := ⟨_, rfl⟩
  have hse : sayE M33 = .nil := by unfold sayE; rw [if_pos hck]
  unfold SayRet at hsay
  rw [← hX, ← hSE] at hsay
  rw [← hX] at hlen hfr
  rw [← hE0] at hfr hrd hel
  rw [← hSE] at hse
  obtain ⟨L, hL⟩ : ∃ L, L = X.length := ⟨_, rfl⟩
  rw [← hL] at hsay hlen
  have hL10 : (10 : Int) < (L : Int) := by omega
  have hLle : L ≤ 16 := by omega
  have HX := Lib.hid (And.intro hL (And.intro hfr (And.intro hrd hel)))
  subst hse
  have HS := Lib.hid hsay
  clear hX hSE hE0 hck hsay hL hfr hrd hel hlen
  go_enter Tryz.func5, Tryz.ntmps5
  go_wp2_with fail
  refine (new_line _).mono ?_
  rintro e w1 ⟨ga, rfl, hga, hka, hb1⟩
  have HGA := Lib.hid hga
  clear hga
  go_wp2_with fail
  refine (new_line _).mono ?_
  rintro e w2 ⟨gb, rfl, hgb, hkb, hb2⟩
  have HGB := Lib.hid hgb
  clear hgb
  have hbw2 := hb1.trans (hb2.mono hb1.size)
  have hka2 := hka.below hb2
  have hT2 := hT.stay hbw2
  have hs2 := HS.out ga [] w2 hka2 hT2
  simp only [mCells, M33, Ms.zero] at hs2
  go_wp2_with fail
  refine hs2.mono ?_
  rintro e w3 ⟨A, c, v, rfl, hown3, hv3, hb3⟩
  obtain rfl : v = .nilIface := hv3
  have hbw3 := hbw2.trans (hb3.mono hbw2.size)
  have hkb3 := hkb.below hb3
  have hT3 := hT.stay hbw3
  have hbs3 := hown3.bs
  have hgb3 := hkb.lt
  clear hs2 hka hka2 hkb
  go_wp2_with fail
  go_loopg [5, 20] L (fun rem n idx wr => LivAt w3 gb X L [E0] rem n idx wr)
  case atStart => exact ⟨0, [], [], [E0], rfl, rfl, rfl, rfl, by rw [List.nil_append, List.drop_zero, frames_one]; rw [← HX.out.2.1, frames_one], part_nil, hkb3, World.grownBy.refl _ _⟩
  case round =>
    obtain ⟨k, P, es1, es2, hgk, rfl, rfl, hes, hfr, hP, hkb, hgr⟩ := hrel
    have HE := Lib.hid (And.intro hes hfr)
    clear hes hfr
    by_cases hlt : k < L
    · have hbsr : BS wr w3.heap.size A L X := by
        refine ibs_only hbs3 hgr (Nat.le_refl _) fun hn a ha => ?_
        obtain ⟨g, e, hge, _⟩ := hown3.form hn
        rw [ha] at e; injection e with e; subst e
        simp only; omega
      obtain ⟨b1, o1, x, rfl, hb1', hx, c1⟩ := hbsr.at_ hlt
      have hTr := hT3.only' hkb3 hgr
      have hal := alloc_b wr (.cells #[.int .u8 (x.toNat : Int)] 5)
      have hbx : BS (wr.alloc (.cells #[.int .u8 (x.toNat : Int)] 5)) (wr.alloc (.cells #[.int .u8 (x.toNat : Int)] 5)).heap.size (some ⟨wr.heap.size, 0, none⟩) 1 [x] := BS.fresh wr 5 [x]
      obtain ⟨o, r, e, hgo⟩ := Goes.all (P ++ [x])
      have hX : X.drop k = x :: X.drop (k + 1) := by
        obtain ⟨hkl, rfl⟩ := List.getElem?_eq_some_iff.1 hx
        exact List.drop_eq_getElem_cons hkl
      have hsplit : (P ++ [x]) ++ X.drop (k + 1) = frames es2 := by rw [List.append_assoc, List.singleton_append, ← hX]; exact HE.out.2
      have hes2 : ∀ p ∈ es2, p = E0 := fun p hp => by
        have : p ∈ [E0] := by rw [HE.out.1]; exact List.mem_append_right _ hp
        simpa using this
      obtain ⟨rfl, es3, hes3, hrest⟩ := goes_frames hgo es2 _ (fun p hp => by rw [hes2 p hp, HX.out.2.2.2]; decide) hsplit
      have hok : ∀ p ∈ o, (Ms.readP p).2 = 0 := fun p hp => by
        rw [hes2 p (by rw [hes3]; exact List.mem_append_left _ hp), HX.out.2.2.1]
      have hol : o.length ≤ 1 := by
        have h := congrArg List.length HE.out.1
        rw [hes3] at h
        simp at h; omega
      have hel1 : es1.length ≤ 1 := by
        have h := congrArg List.length HE.out.1
        simp at h; omega
      have hfd := lfeed_any gb P _ (hkb.below hal) hP (some ⟨wr.heap.size, 0, none⟩) 1 1 [x] hbx (fun _ a ha => by injection ha with ha; subst ha; have := hkb.lt; simp only; omega) (by decide) (Nat.le_refl _) (hTr.stay hal) o r 0 hgo hok
      have HF := Lib.hid (And.intro hes3 (And.intro hrest hgo.part))
      clear hgo hX hsplit hes2 hes3 hrest hok
      go_wp2_with fail
      refine hfd.mono ?_
      rintro e w5 ⟨A5, c5, ps, v5, rfl, hmo5, hmap, hms5, hgr5, h50, -⟩
      obtain ⟨rfl, hkb5⟩ := h50 rfl
      have hpl : ps.length = o.length := by simpa using congrArg List.length hmap
      have hgr6 := only_trans (only_alloc hgr _) hgr5
      go_wp2_with fail
      go_roundg (gk - 1)
      case measure => omega
      case rel =>
        exact ⟨k + 1, r, es1 ++ o, es3, by omega, by go_num, by rw [List.length_append]; go_num, by rw [HE.out.1, HF.out.1, List.append_assoc], HF.out.2.1, HF.out.2.2, hkb5, hgr6⟩
    · obtain rfl : k = L := by omega
      have hfr := HE.out.2
      rw [HX.out.1, List.drop_length, List.append_nil] at hfr
      have hes2 : ∀ p ∈ es2, p.length ≤ 1400 := fun p hp => by
        have : p ∈ [E0] := by rw [HE.out.1]; exact List.mem_append_right _ hp
        simp only [List.mem_singleton] at this
        rw [this, HX.out.2.2.2]; decide
      obtain ⟨rfl, _⟩ := part_frames hes2 hfr hP
      have hel1 : es1.length = 1 := by
        have h := congrArg List.length HE.out.1
        simp at h; omega
      rw [hel1]
      clear hel1 hes2 hfr
      go_wp2_with fail
      go_ret
      refine ⟨rfl, ?_⟩
      exact hbw3.grown hgr hbw3.size (fun j hj => by injection hj with hj; have := hb1.size; have := HGB.out; omega)
end Go.Proofs.YthhhiiagppckhaaGreatDoor
end
