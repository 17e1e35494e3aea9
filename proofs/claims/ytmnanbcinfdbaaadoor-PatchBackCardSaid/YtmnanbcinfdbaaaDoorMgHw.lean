/- The walks of hunt.Plain and hunt.Steps; conditions: none beyond their hypotheses. -/
import Derived.Test.YtmnanbcinfdbaaaDoorMgHv
import Derived.Test.YtmnanbcinfdbaaaDoorMgWin
import Derived.WalkMore
import Derived.Test.YtmnanbcinfdbaaaDoorMgSg6
set_option linter.unusedSimpArgs false
set_option linter.unusedVariables false
section
namespace Go.Proofs.YtmnanbcinfdbaaaDoor
open Go.RowKit Go.Proofs.U
set_option linter.unusedVariables false
theorem SO.cap {w : World} {base B0 n c : Nat} {A : Option Addr} {l : List Gr.Stp} (h : SO w base B0 A n c l) : n ≤ c := by
  obtain ⟨vs, h1, _⟩ := h
  rcases h1.2 with ⟨hv, h0⟩ | ⟨g, cap, cur, hv, _, _, hcap, _⟩
  · omega
  · injection hv with _ _ e; omega
/-- steps that a call made and hands back -/
def LRet (w : World) (l : List Gr.Stp) (e : Ending) (w' : World) : Prop := (∃ A n c, e = .returned (.slice A n c) ∧ n ≤ c ∧ SO w' w.heap.size 0 A n c l) ∧ Below w.heap.size w w'
theorem tr_new (w : World) : Tr (w.alloc (.cells #[.slice none 0 0] 106)) w.heap.size w.heap.size none 0 0 [] :=
  ⟨Blk.new w _ _, Nat.le_refl _, [], World.ownsRow_nil _ _ _ _, rfl, by simp, .inl rfl⟩
theorem Lits.nil : Lits [] := by intro x h; cases h
theorem Oks.lits {s nb : Nat} {l : List Gr.Stp} (h : Oks s nb l) : Lits l := fun x hx hk => by
  rcases h x hx with ⟨a, b, rfl, _⟩ | ⟨d, rfl, _, h2⟩
  · simp at hk
  · exact ⟨rfl, h2⟩
theorem Oks.cps {s nb : Nat} {l : List Gr.Stp} (h : Oks s nb l) (hn : nb ≤ 1000000) : Cps l := fun x hx hk => by
  rcases h x hx with ⟨a, b, rfl, _, h2⟩ | ⟨d, rfl, _, h2⟩
  · have hm : (a + b) * s ≤ nb / s * s := Nat.mul_le_mul_right s h2
    have hd : nb / s * s ≤ nb := Nat.div_mul_le_self _ s
    rw [Nat.add_mul] at hm
    simp only
    exact ⟨by omega, by omega, by omega, by omega⟩
  · simp at hk
theorem tr_lret {w w' w1 : World} {A : Option Addr} {n c : Nat} {l : List Gr.Stp} (h : Tr w1 w.heap.size w.heap.size A n c l) (hb : Below w.heap.size w w1) : LRet w l (.returned (.slice A n c)) w1 :=
  ⟨⟨A, n, c, rfl, SO.cap (B0 := 0) h.so, h.so⟩, hb⟩
set_option maxRecDepth 100000 in
set_option maxHeartbeats 4000000 in
theorem hplain_any (Ad : Option Addr) (m cd : Nat) (data : List UInt8) (w : World) (hb : BS w w.heap.size Ad m data) (hc : m ≤ cd) (hm : m ≤ 1000000) :
    Calls Tryd.prog 49 #[.slice Ad m cd] w (LRet w (tells [] data)) := by
  have hb0 : Below w.heap.size w (w.alloc (.cells #[.slice none 0 0] 106)) := (Below.refl _ _).alloc (Nat.le_refl _) _
  have ht := told_any w.heap.size w.heap.size 0 0 w.heap.size _ none [] Ad m cd data (tr_new w) (hb.below hb0) hc (Nat.le_refl _) Lits.nil (by simpa using hm)
  go_enter Tryd.func49, Tryd.ntmps49
  go_wp2_with fail
  refine ht.mono ?_
  rintro e w1 ⟨rfl, ⟨A, n, c, h1⟩, h2, _⟩
  have c0 : w1.cell? ⟨w.heap.size, 0, none⟩ = some (.slice A n c) := Blk.cell h1.1 0
  go_wp2_with fail
  go_ret
  exact tr_lret (w' := w1) h1 (hb0.trans h2)
set_option maxRecDepth 100000 in
set_option maxHeartbeats 4000000 in
theorem hstepsNil_any (Ad : Option Addr) (m cd : Nat) (data : List UInt8) (w : World) (hb : BS w w.heap.size Ad m data) (hc : m ≤ cd) (hm : m ≤ 1000000) :
    Calls Tryd.prog 45 #[.pointer none, .slice Ad m cd] w (LRet w (tells [] data)) := by
  have hb0 : Below w.heap.size w (w.alloc (.cells #[.slice none 0 0] 106)) := (Below.refl _ _).alloc (Nat.le_refl _) _
  have ht := told_any w.heap.size w.heap.size 0 0 w.heap.size _ none [] Ad m cd data (tr_new w) (hb.below hb0) hc (Nat.le_refl _) Lits.nil (by simpa using hm)
  have ho := over_no Ad m cd 0 (w.alloc (.cells #[.slice none 0 0] 106)) (by unfold maxLen; omega) (.inl (by decide))
  have hz := sizeNil_any (w.alloc (.cells #[.slice none 0 0] 106))
  go_enter Tryd.func45, Tryd.ntmps45
  go_wp2_with fail
  go_step3
  go_wp2_with fail
  refine hz.mono ?_
  rintro e w1 ⟨rfl, rfl⟩
  go_wp2_with fail
  refine ho.mono ?_
  rintro e w1 ⟨rfl, rfl⟩
  clear hz ho
  go_wp2_with fail
  go_step3
  go_wp2_with fail
  go_loopg [8] 0 (fun r i wr => i = .int .i64 0 ∧ wr = w.alloc (.cells #[.slice none 0 0] 106))
  case atStart => exact ⟨rfl, rfl⟩
  case round =>
    obtain ⟨rfl, rfl⟩ := hrel
    go_wp2_with (go_at_call 82; refine ht.mono ?_; rintro e w1 ⟨rfl, ⟨A, n, c, h1⟩, h2, _⟩; have c0 : w1.cell? ⟨w.heap.size, 0, none⟩ = some (.slice A n c) := Blk.cell h1.1 0)
    rw [Exit.noGoto_ret]
    go_ret
    exact tr_lret (w' := w1) h1 (hb0.trans h2)

set_option maxRecDepth 100000 in
set_option maxHeartbeats 16000000 in
theorem hsteps_any (G mb B1 : Nat) (Ab : Option Addr) (nb cb : Nat) (base : List UInt8) (s : Nat) (Ad : Option Addr) (m cd : Nat) (data : List UInt8) (w : World) (htt : Tt w G mb B1 Ab nb cb base s) (hT : Tabs w) (hb : BS w w.heap.size Ad m data) (hc : m ≤ cd) (hm : m ≤ 100000) :
    Calls Tryd.prog 45 #[.pointer (some ⟨G, 0, none⟩), .slice Ad m cd] w (LRet w (huntS base data s m 0 [])) := by
  have hb0 : Below w.heap.size w (w.alloc (.cells #[.slice none 0 0] 106)) := (Below.refl _ _).alloc (Nat.le_refl _) _
  have hz := size_any G mb B1 Ab nb cb base s _ (htt.stay hb0)
  have hs4 := htt.lo
  have hs64 := htt.hi
  have hdl := hb.1
  by_cases hsm : m < s
  · have ht := told_any w.heap.size w.heap.size 0 0 w.heap.size _ none [] Ad m cd data (tr_new w) (hb.below hb0) hc (Nat.le_refl _) Lits.nil (by simp only [List.length_nil]; omega)
    have ho := over_no Ad m cd s (w.alloc (.cells #[.slice none 0 0] 106)) (by unfold maxLen; omega) (.inr (by omega))
    rw [huntS_last (by rw [hdl]; omega) (by rw [hdl]; omega), List.drop_zero]
    go_enter Tryd.func45, Tryd.ntmps45
    go_wp2_with fail
    go_step3
    go_wp2_with fail
    refine hz.mono ?_
    rintro e w1 ⟨rfl, rfl⟩
    go_wp2_with fail
    refine ho.mono ?_
    rintro e w1 ⟨rfl, rfl⟩
    clear hz ho
    go_wp2_with fail
    go_step3
    go_wp2_with fail
    go_loopg [8] 0 (fun r i wr => i = .int .i64 0 ∧ wr = w.alloc (.cells #[.slice none 0 0] 106))
    case atStart => exact ⟨rfl, rfl⟩
    case round =>
      obtain ⟨rfl, rfl⟩ := hrel
      go_wp2_with (go_at_call 82; refine ht.mono ?_; rintro e w1 ⟨rfl, ⟨A, n, c, h1⟩, h2, _⟩; have c0 : w1.cell? ⟨w.heap.size, 0, none⟩ = some (.slice A n c) := Blk.cell h1.1 0)
      rw [Exit.noGoto_ret]
      go_ret
      exact tr_lret (w' := w1) h1 (hb0.trans h2)
  obtain ⟨bd, od, rfl, _⟩ := hb.2 (by omega)
  have ho := over_yes bd od m cd s data (w.alloc (.cells #[.slice none 0 0] 106)) ((hb.below hb0).more hb0.size) (by omega) hc (by omega) (by omega)
  obtain ⟨R, hR⟩ : ∃ R, R = huntS base data s m 0 [] := ⟨_, rfl⟩
  rw [← hR]
  have HRR := Lib.hid hR
  have hbl := htt.bs.1
  have HBL := Lib.hid hbl
  have HDL := Lib.hid hdl
  clear hR hbl hdl
  go_enter Tryd.func45, Tryd.ntmps45
  go_wp2_with fail
  go_step3
  go_wp2_with fail
  refine hz.mono ?_
  rintro e w1 ⟨rfl, rfl⟩
  go_wp2_with fail
  refine ho.mono ?_
  rintro e w1 ⟨g, rfl, hgs, hW1, hb1⟩
  have hgt : w.heap.size < g := by rw [World.size_alloc] at hgs; omega
  have htr1 := (tr_new w).below hb1
  have hbw1 := hb0.trans (hb1.mono hb0.size)
  clear hz ho hgs hb1
  go_wp2_with fail
  go_step3
  go_wp2_with fail
  go_loopg [8] m (fun r i wr => ∃ k l A n c F, r + k = m ∧ k + s ≤ m ∧ Win wr g bd od m cd s k data ∧ Tr wr w.heap.size w.heap.size A n c l ∧ huntS base data s F k l = R ∧ m ≤ k + F ∧ Oks s nb l ∧ l.length ≤ k ∧ Below w.heap.size w wr)
  case atStart => exact ⟨0, [], none, 0, 0, m, by omega, by omega, hW1, htr1, HRR.out.symm, by omega, Oks.nil _ _, Nat.zero_le _, hbw1⟩
  case round =>
    clear hW1 htr1 hbw1
    obtain ⟨k, l, A, n, c, F1, hgk, hks, hWin, hTr, hR, hF, hok, hlk, hbw⟩ := hrel
    obtain ⟨F, rfl⟩ : ∃ F, F1 = F + 1 := ⟨F1 - 1, by omega⟩
    obtain ⟨wo, rfl⟩ : ∃ wo : World, wo = wr := ⟨_, rfl⟩
    have HW := Lib.hid (show BS wo w.heap.size (some ⟨bd, od + k, none⟩) s (inw data s k) from ((hb.below hbw).drop (k := k) (by omega)).take (by omega))
    have HW1 := Lib.hid (show BS wo w.heap.size (some ⟨bd, od + k, none⟩) 1 ((data.drop k).take 1) from ((hb.below hbw).drop (k := k) (by omega)).take (by omega))
    have HL := Lib.hid (show Cps l ∧ Oks s nb l ∧ l.length ≤ k ∧ huntS base data s (F + 1) k l = R ∧ m ≤ k + (F + 1) ∧ data.length = m from ⟨hok.cps (by have := htt.hn; omega), hok, hlk, hR, hF, HDL.out⟩)
    have hw1 : IntKind.i64.wrap ((k : Int) + (s : Int)) = ((k + s : Nat) : Int) := by rw [IntKind.wrap_i64]; omega
    have hw2 : IntKind.i64.wrap ((k : Int) + 1) = ((k + 1 : Nat) : Int) := by rw [IntKind.wrap_i64]; omega
    have hck : ¬ cd = k := by omega
    have hnl := hTr.len
    have hgG : g < wo.heap.size := Win.lt hWin
    cases h0 : (Has (base.length / s) (nxt l s) && (blkB base s (nxt l s).toNat == inw data s k))
    · obtain ⟨X, hX⟩ : ∃ X, nxt l s = X := ⟨_, rfl⟩
      have h1 := h0
      rw [hX, HBL.out] at h1
      have hpk : pick l base s (inw data s k) = fst17 base s (inw data s k) (nb / s) := by unfold pick; rw [if_neg (by rw [h0]; simp), HBL.out]
      clear hR hF hok hlk h0 hnl
      cases hf : fst17 base s (inw data s k) (nb / s) with
      | some i =>
        have hi := (fst17_has hf).1
        have hm1 : (i + 1) * s ≤ nb / s * s := Nat.mul_le_mul_right s (by omega)
        have hm2 : nb / s * s ≤ nb := Nat.div_mul_le_self nb s
        have hm3 := htt.hn
        rw [Nat.succ_mul] at hm1
        have hwm : IntKind.i64.wrap ((i : Int) * (s : Int)) = ((i * s : Nat) : Int) := by rw [show (i : Int) * (s : Int) = ((i * s : Nat) : Int) by simp]; exact wrap_nat_i64 (by omega)
        have HP := Lib.hid (And.intro hf (And.intro hi (hpk.trans hf)))
        clear hf hi hm1 hm2 hm3 hpk

        go_wp2_with fail
        refine (winAt_any g bd od m cd s k data wo hWin).mono ?_
        rintro e w1 ⟨rfl, rfl⟩
        go_wp2_with fail
        refine (tnext_any w.heap.size w.heap.size n c wo A l s hTr HL.out.1 (by omega) (by omega) (by have := hTr.len; have := HL.out.2.2.1; omega)).mono ?_
        rintro e w2 ⟨rfl, hd2⟩
        have hb2 : Below wo.heap.size wo w2 := hd2.below _
        rw [hX]
        go_wp2_with fail
        refine (is_any G mb B1 Ab nb cb base s w2 (htt.stay (hbw.trans (hb2.mono hbw.size))) X (some ⟨bd, od + k, none⟩) s (cd - k) (inw data s k) w.heap.size (HW.out.below (hb2.mono hbw.size)) (Nat.le_trans hbw.size hb2.size)).mono ?_
        rintro e w3 ⟨rfl, hb3⟩
        have hb3' := hb2.trans (hb3.mono hb2.size)
        rw [h1]
        go_wp2_with fail
        refine (winSum_any g bd od m cd s k data w3 (hWin.stay hb3')).mono ?_
        rintro e w4 ⟨rfl, hb4⟩
        have hb4' := hb3'.trans (hb4.mono hb3'.size)
        go_wp2_with fail
        refine (find_any G mb B1 Ab nb cb base s w4 (htt.stay (hbw.trans (hb4'.mono hbw.size))) (hT.stay (hbw.trans (hb4'.mono hbw.size))) (rsum (inw data s k)) (rsum_bd _).1 (rsum_bd _).2 (some ⟨bd, od + k, none⟩) s (cd - k) (inw data s k) ((HW.out.below (hb4'.mono hbw.size)).more (Nat.le_trans hbw.size hb4'.size)) (by omega) (by omega)).mono ?_
        rintro e w5 ⟨rfl, hb5⟩
        have hb5' := hb4'.trans (hb5.mono hb4'.size)
        rw [fnd_eq, HP.out.1]
        simp only [Option.map_some, Option.getD_some, Option.isSome_some]
        go_wp2_with fail
        refine (copied_any w.heap.size w.heap.size n c w5 A l ((i * s : Nat) : Int) (s : Int) w.heap.size (hTr.below hb5') HL.out.1 (by omega) (by omega) (by have := hTr.len; have := HL.out.2.2.1; omega) (Nat.le_refl _)).mono ?_
        rintro e w6 ⟨rfl, ⟨A6, n6, c6, hT6⟩, hb6, hs6⟩
        have hW6 : Win w6 g bd od m cd s k data := hs6.blk (hWin.stay hb5') (by omega) (by decide) (by decide)
        have hb6' := (hbw.trans (hb5'.mono hbw.size)).trans hb6
        have hok6 : Oks s nb (copyS l ((i * s : Nat) : Int) (s : Int)) := HL.out.2.1.copy HP.out.2.1 (by omega)
        have hl6 : (copyS l ((i * s : Nat) : Int) (s : Int)).length ≤ k + 1 := by have := copy_len l ((i * s : Nat) : Int) (s : Int); have := HL.out.2.2.1; omega
        have hR6 : huntS base data s F (k + s) (copyS l ((i * s : Nat) : Int) (s : Int)) = R := by rw [← huntS_copy (by omega) (by rw [HL.out.2.2.2.2.2]; omega) HP.out.2.2]; exact HL.out.2.2.2.1
        generalize hLL : copyS l ((i * s : Nat) : Int) (s : Int) = l6 at hT6 hok6 hl6 hR6
        by_cases hgo : k + s + s ≤ m
        · have hyes := skip_yes g bd od m cd s k data w6 hW6 (((hb.below hb6').more (by omega))) (by omega) hc (by omega) s (by omega)
          go_wp2_with fail
          refine hyes.mono ?_
          rintro e w7 ⟨rfl, hW7, hg7⟩
          have hT7 := hT6.grown hg7 hW6 (by decide) (by decide) (by decide)
          have hb7 := hb6'.grown hg7 hb6'.size (fun q hq => by injection hq; omega)
          have hsz7 := hb7.size
          clear hyes
          go_wp2_with fail
          go_roundg (gk - s)
          case measure => omega
          case rel => exact ⟨k + s, l6, A6, n6, c6, F, by omega, by omega, hW7, hT7, hR6, by have := HL.out.2.2.2.2.1; omega, hok6, by omega, hb7⟩
        · have hno := skip_no g bd od m cd s k data w6 hW6 (by omega) (by omega) (by omega) (s : Int) (.inr (by omega))
          have hR7 : tells l6 (data.drop (k + s)) = R := by rw [← huntS_last (base := base) (s := s) (F := F) (a := k + s) (by rw [HL.out.2.2.2.2.2]; omega) (by have := HL.out.2.2.2.2.1; rw [HL.out.2.2.2.2.2]; omega)]; exact hR6
          have hw9 : IntKind.i64.wrap ((k : Int) + (s : Int)) = ((k + s : Nat) : Int) := by rw [IntKind.wrap_i64]; omega
          by_cases hcc : cd = k + s
          · have hdd : data.drop (k + s) = [] := List.drop_of_length_le (by rw [HL.out.2.2.2.2.2]; omega)
            have hR8 : l6 = R := by rw [hdd] at hR7; exact hR7
            have ht9 := fun q => told_any w.heap.size w.heap.size n6 c6 w.heap.size (w6.drewN q) A6 l6 (some ⟨bd, od, none⟩) 0 0 [] hT6 (BS.nil _ _ _) (Nat.le_refl _) (Nat.le_refl _) hok6.lits (by simp only [Nat.add_zero]; omega)
            have hmk : m = k + s := by omega
            have HR := Lib.hid (And.intro hR8 (And.intro hb6' (And.intro hbw hmk)))
            clear hR7 hR8 hdd hR6
            subst hmk
            subst hcc
            go_wp2_with fail
            refine hno.mono ?_
            rintro e w7 ⟨rfl, q, rfl⟩
            go_wp2_with (go_at_call 82; refine (ht9 q).mono ?_; rintro e w8 ⟨rfl, ⟨A8, n8, c8, h8⟩, hb8, _⟩; have c0 : w8.cell? ⟨w.heap.size, 0, none⟩ = some (.slice A8 n8 c8) := Blk.cell h8.1 0)
            rw [Exit.noGoto_ret]
            go_ret
            have h9 : tells l6 [] = R := HR.out.1
            rw [h9] at h8
            exact tr_lret (w' := w8) h8 ((HR.out.2.1.trans (below_drewN (Below.refl _ w6) q)).trans hb8)
          · have ht9 := fun q => told_any w.heap.size w.heap.size n6 c6 w.heap.size (w6.drewN q) A6 l6 (some ⟨bd, od + (k + s), none⟩) (m - (k + s)) (cd - (k + s)) (data.drop (k + s)) hT6 ((hb.below hb6').drop (k := k + s) (by omega)) (by omega) (Nat.le_refl _) hok6.lits (by omega)
            have HR := Lib.hid (And.intro hR7 (And.intro hb6' hbw))
            clear hR7 hR6
            go_wp2_with fail
            refine hno.mono ?_
            rintro e w7 ⟨rfl, q, rfl⟩
            go_wp2_with (go_at_call 82; refine (ht9 q).mono ?_; rintro e w8 ⟨rfl, ⟨A8, n8, c8, h8⟩, hb8, _⟩; have c0 : w8.cell? ⟨w.heap.size, 0, none⟩ = some (.slice A8 n8 c8) := Blk.cell h8.1 0)
            rw [Exit.noGoto_ret]
            go_ret
            rw [HR.out.1] at h8
            exact tr_lret (w' := w8) h8 ((HR.out.2.1.trans (below_drewN (Below.refl _ w6) q)).trans hb8)
      | none =>
        have HP := Lib.hid (And.intro hf (hpk.trans hf))
        clear hf hpk
        go_wp2_with fail
        refine (winAt_any g bd od m cd s k data wo hWin).mono ?_
        rintro e w1 ⟨rfl, rfl⟩
        go_wp2_with fail
        refine (tnext_any w.heap.size w.heap.size n c wo A l s hTr HL.out.1 (by omega) (by omega) (by have := hTr.len; have := HL.out.2.2.1; omega)).mono ?_
        rintro e w2 ⟨rfl, hd2⟩
        have hb2 : Below wo.heap.size wo w2 := hd2.below _
        rw [hX]
        go_wp2_with fail
        refine (is_any G mb B1 Ab nb cb base s w2 (htt.stay (hbw.trans (hb2.mono hbw.size))) X (some ⟨bd, od + k, none⟩) s (cd - k) (inw data s k) w.heap.size (HW.out.below (hb2.mono hbw.size)) (Nat.le_trans hbw.size hb2.size)).mono ?_
        rintro e w3 ⟨rfl, hb3⟩
        have hb3' := hb2.trans (hb3.mono hb2.size)
        rw [h1]
        go_wp2_with fail
        refine (winSum_any g bd od m cd s k data w3 (hWin.stay hb3')).mono ?_
        rintro e w4 ⟨rfl, hb4⟩
        have hb4' := hb3'.trans (hb4.mono hb3'.size)
        go_wp2_with fail
        refine (find_any G mb B1 Ab nb cb base s w4 (htt.stay (hbw.trans (hb4'.mono hbw.size))) (hT.stay (hbw.trans (hb4'.mono hbw.size))) (rsum (inw data s k)) (rsum_bd _).1 (rsum_bd _).2 (some ⟨bd, od + k, none⟩) s (cd - k) (inw data s k) ((HW.out.below (hb4'.mono hbw.size)).more (Nat.le_trans hbw.size hb4'.size)) (by omega) (by omega)).mono ?_
        rintro e w5 ⟨rfl, hb5⟩
        have hb5' := hb4'.trans (hb5.mono hb4'.size)
        rw [fnd_eq, HP.out.1]
        simp only [Option.map_none, Option.getD_none, Option.isSome_none]
        go_wp2_with fail
        refine (told_any w.heap.size w.heap.size n c w.heap.size w5 A l (some ⟨bd, od + k, none⟩) 1 (cd - k) ((data.drop k).take 1) (hTr.below hb5') (HW1.out.below (hb5'.mono hbw.size)) (by omega) (Nat.le_refl _) HL.out.2.1.lits (by have := HL.out.2.2.1; omega)).mono ?_
        rintro e w6 ⟨rfl, ⟨A6, n6, c6, hT6⟩, hb6, hs6⟩
        have hW6 : Win w6 g bd od m cd s k data := hs6.blk (hWin.stay hb5') (by omega) (by decide) (by decide)
        have hb6' := (hbw.trans (hb5'.mono hbw.size)).trans hb6
        have hok6 : Oks s nb (tells l ((data.drop k).take 1)) := HL.out.2.1.tells
        have hl1 : ((data.drop k).take 1).length ≤ 1 := by rw [List.length_take]; omega
        have hl6 : (tells l ((data.drop k).take 1)).length ≤ k + 1 := by have := tells_len ((data.drop k).take 1) l; have := HL.out.2.2.1; omega
        have hR6 : huntS base data s F (k + 1) (tells l ((data.drop k).take 1)) = R := by rw [← huntS_tell (by rw [HL.out.2.2.2.2.2]; omega) (by omega) HP.out.2]; exact HL.out.2.2.2.1
        generalize hLL : tells l ((data.drop k).take 1) = l6 at hT6 hok6 hl6 hR6
        by_cases hgo : k + s + 1 ≤ m
        · have hyes := next_yes g bd od m cd s k data w6 hW6 (((hb.below hb6').more (by omega))) (by omega) hc (by omega) (by omega)
          go_wp2_with fail
          refine hyes.mono ?_
          rintro e w7 ⟨rfl, hW7, hg7⟩
          have hT7 := hT6.grown hg7 hW6 (by decide) (by decide) (by decide)
          have hb7 := hb6'.grown hg7 hb6'.size (fun q hq => by injection hq; omega)
          have hsz7 := hb7.size
          clear hyes
          go_wp2_with fail
          go_roundg (gk - 1)
          case measure => omega
          case rel => exact ⟨k + 1, l6, A6, n6, c6, F, by omega, by omega, hW7, hT7, hR6, by have := HL.out.2.2.2.2.1; omega, hok6, by omega, hb7⟩
        · have hno := next_no g bd od m cd s k data w6 hW6 (by omega) (by omega) (by omega) (by omega)
          have hR7 : tells l6 (data.drop (k + 1)) = R := by rw [← huntS_last (base := base) (s := s) (F := F) (a := k + 1) (by rw [HL.out.2.2.2.2.2]; omega) (by have := HL.out.2.2.2.2.1; rw [HL.out.2.2.2.2.2]; omega)]; exact hR6
          have hw9 : IntKind.i64.wrap ((k : Int) + (1 : Int)) = ((k + 1 : Nat) : Int) := by rw [IntKind.wrap_i64]; omega
          by_cases hcc : cd = k + 1
          · exact absurd hcc (by omega)
          · have ht9 := fun q => told_any w.heap.size w.heap.size n6 c6 w.heap.size (w6.drewN q) A6 l6 (some ⟨bd, od + (k + 1), none⟩) (m - (k + 1)) (cd - (k + 1)) (data.drop (k + 1)) hT6 ((hb.below hb6').drop (k := k + 1) (by omega)) (by omega) (Nat.le_refl _) hok6.lits (by omega)
            have HR := Lib.hid (And.intro hR7 (And.intro hb6' hbw))
            clear hR7 hR6
            go_wp2_with fail
            refine hno.mono ?_
            rintro e w7 ⟨rfl, q, rfl⟩
            go_wp2_with (go_at_call 82; refine (ht9 q).mono ?_; rintro e w8 ⟨rfl, ⟨A8, n8, c8, h8⟩, hb8, _⟩; have c0 : w8.cell? ⟨w.heap.size, 0, none⟩ = some (.slice A8 n8 c8) := Blk.cell h8.1 0)
            rw [Exit.noGoto_ret]
            go_ret
            rw [HR.out.1] at h8
            exact tr_lret (w' := w8) h8 ((HR.out.2.1.trans (below_drewN (Below.refl _ w6) q)).trans hb8)
    · have hh0 := h0
      simp only [Bool.and_eq_true, beq_iff_eq] at hh0
      obtain ⟨j, hX, hj⟩ := Has_nat hh0.1
      have h1 := h0
      rw [hX, HBL.out] at h1
      have hpk : pick l base s (inw data s k) = some j := by unfold pick; rw [if_pos h0, hX]; rfl
      rw [HBL.out] at hj
      have hm1 : (j + 1) * s ≤ nb / s * s := Nat.mul_le_mul_right s (by omega)
      have hm2 : nb / s * s ≤ nb := Nat.div_mul_le_self nb s
      have hm3 := htt.hn
      rw [Nat.succ_mul] at hm1
      have hwm : IntKind.i64.wrap ((j : Int) * (s : Int)) = ((j * s : Nat) : Int) := by rw [show (j : Int) * (s : Int) = ((j * s : Nat) : Int) by simp]; exact wrap_nat_i64 (by omega)
      have HP := Lib.hid (And.intro trivial (And.intro hj hpk))
      clear hh0 h0 hR hF hok hlk hj hpk hm1 hm2 hm3 hnl
      go_wp2_with fail
      refine (winAt_any g bd od m cd s k data wo hWin).mono ?_
      rintro e w1 ⟨rfl, rfl⟩
      go_wp2_with fail
      refine (tnext_any w.heap.size w.heap.size n c wo A l s hTr HL.out.1 (by omega) (by omega) (by have := hTr.len; have := HL.out.2.2.1; omega)).mono ?_
      rintro e w2 ⟨rfl, hd2⟩
      have hb2 : Below wo.heap.size wo w2 := hd2.below _
      rw [hX]
      go_wp2_with fail
      refine (is_any G mb B1 Ab nb cb base s w2 (htt.stay (hbw.trans (hb2.mono hbw.size))) (j : Int) (some ⟨bd, od + k, none⟩) s (cd - k) (inw data s k) w.heap.size (HW.out.below (hb2.mono hbw.size)) (Nat.le_trans hbw.size hb2.size)).mono ?_
      rintro e w3 ⟨rfl, hb3⟩
      have hb3' := hb2.trans (hb3.mono hb2.size)
      rw [h1]
      go_wp2_with fail
      refine (copied_any w.heap.size w.heap.size n c w3 A l ((j * s : Nat) : Int) (s : Int) w.heap.size (hTr.below hb3') HL.out.1 (by omega) (by omega) (by have := hTr.len; have := HL.out.2.2.1; omega) (Nat.le_refl _)).mono ?_
      rintro e w6 ⟨rfl, ⟨A6, n6, c6, hT6⟩, hb6, hs6⟩
      have hW6 : Win w6 g bd od m cd s k data := hs6.blk (hWin.stay hb3') (by omega) (by decide) (by decide)
      have hb6' := (hbw.trans (hb3'.mono hbw.size)).trans hb6
      have hok6 : Oks s nb (copyS l ((j * s : Nat) : Int) (s : Int)) := HL.out.2.1.copy HP.out.2.1 (by omega)
      have hl6 : (copyS l ((j * s : Nat) : Int) (s : Int)).length ≤ k + 1 := by have := copy_len l ((j * s : Nat) : Int) (s : Int); have := HL.out.2.2.1; omega
      have hR6 : huntS base data s F (k + s) (copyS l ((j * s : Nat) : Int) (s : Int)) = R := by rw [← huntS_copy (by omega) (by rw [HL.out.2.2.2.2.2]; omega) HP.out.2.2]; exact HL.out.2.2.2.1
      generalize hLL : copyS l ((j * s : Nat) : Int) (s : Int) = l6 at hT6 hok6 hl6 hR6
      by_cases hgo : k + s + s ≤ m
      · have hyes := skip_yes g bd od m cd s k data w6 hW6 (((hb.below hb6').more (by omega))) (by omega) hc (by omega) s (by omega)
        go_wp2_with fail
        refine hyes.mono ?_
        rintro e w7 ⟨rfl, hW7, hg7⟩
        have hT7 := hT6.grown hg7 hW6 (by decide) (by decide) (by decide)
        have hb7 := hb6'.grown hg7 hb6'.size (fun q hq => by injection hq; omega)
        have hsz7 := hb7.size
        clear hyes
        go_wp2_with fail
        go_roundg (gk - s)
        case measure => omega
        case rel => exact ⟨k + s, l6, A6, n6, c6, F, by omega, by omega, hW7, hT7, hR6, by have := HL.out.2.2.2.2.1; omega, hok6, by omega, hb7⟩
      · have hno := skip_no g bd od m cd s k data w6 hW6 (by omega) (by omega) (by omega) (s : Int) (.inr (by omega))
        have hR7 : tells l6 (data.drop (k + s)) = R := by rw [← huntS_last (base := base) (s := s) (F := F) (a := k + s) (by rw [HL.out.2.2.2.2.2]; omega) (by have := HL.out.2.2.2.2.1; rw [HL.out.2.2.2.2.2]; omega)]; exact hR6
        have hw9 : IntKind.i64.wrap ((k : Int) + (s : Int)) = ((k + s : Nat) : Int) := by rw [IntKind.wrap_i64]; omega
        by_cases hcc : cd = k + s
        · have hdd : data.drop (k + s) = [] := List.drop_of_length_le (by rw [HL.out.2.2.2.2.2]; omega)
          have hR8 : l6 = R := by rw [hdd] at hR7; exact hR7
          have ht9 := fun q => told_any w.heap.size w.heap.size n6 c6 w.heap.size (w6.drewN q) A6 l6 (some ⟨bd, od, none⟩) 0 0 [] hT6 (BS.nil _ _ _) (Nat.le_refl _) (Nat.le_refl _) hok6.lits (by simp only [Nat.add_zero]; omega)
          have hmk : m = k + s := by omega
          have HR := Lib.hid (And.intro hR8 (And.intro hb6' (And.intro hbw hmk)))
          clear hR7 hR8 hdd hR6
          subst hmk
          subst hcc
          go_wp2_with fail
          refine hno.mono ?_
          rintro e w7 ⟨rfl, q, rfl⟩
          go_wp2_with (go_at_call 82; refine (ht9 q).mono ?_; rintro e w8 ⟨rfl, ⟨A8, n8, c8, h8⟩, hb8, _⟩; have c0 : w8.cell? ⟨w.heap.size, 0, none⟩ = some (.slice A8 n8 c8) := Blk.cell h8.1 0)
          rw [Exit.noGoto_ret]
          go_ret
          have h9 : tells l6 [] = R := HR.out.1
          rw [h9] at h8
          exact tr_lret (w' := w8) h8 ((HR.out.2.1.trans (below_drewN (Below.refl _ w6) q)).trans hb8)
        · have ht9 := fun q => told_any w.heap.size w.heap.size n6 c6 w.heap.size (w6.drewN q) A6 l6 (some ⟨bd, od + (k + s), none⟩) (m - (k + s)) (cd - (k + s)) (data.drop (k + s)) hT6 ((hb.below hb6').drop (k := k + s) (by omega)) (by omega) (Nat.le_refl _) hok6.lits (by omega)
          have HR := Lib.hid (And.intro hR7 (And.intro hb6' hbw))
          clear hR7 hR6
          go_wp2_with fail
          refine hno.mono ?_
          rintro e w7 ⟨rfl, q, rfl⟩
          go_wp2_with (go_at_call 82; refine (ht9 q).mono ?_; rintro e w8 ⟨rfl, ⟨A8, n8, c8, h8⟩, hb8, _⟩; have c0 : w8.cell? ⟨w.heap.size, 0, none⟩ = some (.slice A8 n8 c8) := Blk.cell h8.1 0)
          rw [Exit.noGoto_ret]
          go_ret
          rw [HR.out.1] at h8
          exact tr_lret (w' := w8) h8 ((HR.out.2.1.trans (below_drewN (Below.refl _ w6) q)).trans hb8)
end Go.Proofs.YtmnanbcinfdbaaaDoor
end
