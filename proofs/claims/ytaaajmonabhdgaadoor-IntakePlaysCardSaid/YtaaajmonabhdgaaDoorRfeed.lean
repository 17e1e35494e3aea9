/- The walk of the reference of intake; conditions: none beyond their hypotheses. -/
import Derived.Test.YtaaajmonabhdgaaDoorRtn
import Derived.Test.YtaaajmonabhdgaaDoorInp
import Derived.Deep.LoopGhost
import Derived.WalkMore
import Derived.Deep.QuietTactic
import Derived.BigQuiet
import Derived.RegionTactic
import Derived.Test.YtaaajmonabhdgaaDoorReg
namespace Go.Proofs.YtaaajmonabhdgaaDoor
open Go.RowKit Go.Proofs.U
set_option linter.unusedVariables false

theorem infoR : (Tryd.prog.info? 23).map (fun i => (i.zero, i.size, i.bytes)) = some (some (.slice none 0 0), 1, 24) := by kernel_rfl
/-- an intake of the reference -/
def rk (A : Option Addr) (n c : Nat) (e : Int) : Value := .agg #[.slice A n c, .int .i64 e]
def RFeedRet (w : World) (a : List UInt8) (en : Ending) (w' : World) : Prop :=
  ∃ o r e A c A2 c2, Goes a o r e ∧ en = .returned (.tuple #[rk A r.length c e, .slice A2 o.length c2, .int .i64 e]) ∧ El w' w.heap.size 5 (.slice A r.length c) r ∧ Outs w' w.heap.size 23 5 A2 o.length c2 o ∧ Below w.heap.size w w'
def RFeedAt (w : World) (a : List UInt8) (N k : Nat) (av ov : Value) (wr : World) : Prop :=
  ∃ al o A c A' c', al.length = k ∧ av = .slice A k c ∧ ov = .slice A' o.length c' ∧ El wr w.heap.size 5 (.slice A k c) al ∧ Outs wr w.heap.size 23 5 A' o.length c' o ∧ Blk wr (w.heap.size + 1) 65 #[.slice none 0 0, .int .i64 0] ∧
    Below w.heap.size w wr ∧ (∀ o' r e, Goes al o' r e → Goes a (o ++ o') r e) ∧ 10 * o.length + k ≤ N

theorem bs_own {w w' : World} {base n c B m : Nat} {e : TypeId} {A A' : Option Addr} {bs bs' : List UInt8} (h : BS w B A' m bs') (hg : w.grownBy w' (Value.slice A n c).ownBlock) (hown : Own w base e A n c bs) (hB : B ≤ base := by omega) (hw : base ≤ w.heap.size := by simp) : BS w' B A' m bs' :=
  h.keep fun p hp => World.cell?_of_block (hg.block p.block (by omega) (fun er => by have := (World.ownsRow.lt hown _ er.symm).1; omega))
set_option maxHeartbeats 1000000 in
theorem rfeedBad_any (A : Option Addr) (n c : Nat) (e : Int) (he : e ≠ 0) (v : Value) (w : World) :
    Calls Tryd.prog 40 #[rk A n c e, v] w fun en w' => en = .returned (.tuple #[rk A n c e, .slice none 0 0, .int .i64 e]) ∧ Below w.heap.size w w' := by
  have he1 : (e != 0) = true := by simpa using he
  clear he
  unfold rk
  go_enter Tryd.func40, Tryd.ntmps40
  go_wp2_with fail
  go_region
  all_goals
    go_wp2_with fail
    refine bodyPost_ret (v := .tuple #[.agg #[.slice A n c, .int .i64 e], .slice none 0 0, .int .i64 e]) ?_ rfl ⟨rfl, ?_⟩
    · simp [results, Tryd.results40, go_sem]
    · exact (((Below.refl _ _).alloc (Nat.le_refl _) _).alloc (by simp) _).drew

set_option maxHeartbeats 4000000 in
theorem rfeed_any (A : Option Addr) (n c : Nat) (P : List UInt8) (A' : Option Addr) (m c' : Nat) (bs : List UInt8) (w : World) (hP : BS w w.heap.size A n P) (hb : BS w w.heap.size A' m bs) (hn : n ≤ 1099511627776) (hm : m ≤ 1099511627776) :
    Calls Tryd.prog 40 #[rk A n c 0, .slice A' m c'] w (RFeedRet w (P ++ bs)) := by
  unfold rk
  have hs3 : ((w.alloc (.cells #[.slice A n c, .int .i64 0] 65)).alloc (.cells #[.slice none 0 0, .int .i64 0] 65)).heap.size = w.heap.size + 1 + 1 := by simp
  have hbW : Below w.heap.size w ((w.alloc (.cells #[.slice A n c, .int .i64 0] 65)).alloc (.cells #[.slice none 0 0, .int .i64 0] 65)) := ((Below.refl _ _).alloc (Nat.le_refl _) _).alloc (by simp) _
  have hbk : Blk ((w.alloc (.cells #[.slice A n c, .int .i64 0] 65)).alloc (.cells #[.slice none 0 0, .int .i64 0] 65)) (w.heap.size + 1) 65 #[.slice none 0 0, .int .i64 0] := by
    have := Blk.new (w.alloc (.cells #[.slice A n c, .int .i64 0] 65)) 65 #[.slice none 0 0, .int .i64 0]
    rwa [show (w.alloc (.cells #[.slice A n c, .int .i64 0] 65)).heap.size = w.heap.size + 1 by simp] at this
  have own0 := Own.made ((w.alloc (.cells #[.slice A n c, .int .i64 0] 65)).alloc (.cells #[.slice none 0 0, .int .i64 0] 65)) 5 (w.heap.size + 1 + 1) (by rw [hs3]; omega)
  rw [hs3] at own0
  have hP3 := (hP.below hbW).alloc (by rw [hs3]; omega) (.cells #[] 5)
  have hb3 := (hb.below hbW).alloc (by rw [hs3]; omega) (.cells #[] 5)
  have hbk3 := hbk.alloc (.cells #[] 5)
  have hbW3 := hbW.alloc (by rw [hs3]; omega) (.cells #[] 5)
  have HS3 := Lib.hid hs3
  clear hs3 hbW hbk
  go_enter Tryd.func40, Tryd.ntmps40
  go_wp2_with (first
    | (at_builtin; refine wpList_app bt rfl (.tmp 18) (.tmp 20) rfl (w.heap.size + 1 + 1) _ _ _ [] rfl own0 _ _ _ _ P rfl hP3 (by omega) (by simp) ?_; intro A1 c1 w1 hown1 hg1 _; simp only [Nat.zero_add, List.nil_append] at hown1)
    | (at_builtin; refine wpList_app bt rfl (.tmp 21) (.tmp 22) rfl (w.heap.size + 1 + 1) _ _ _ P rfl hown1 _ _ _ _ bs rfl (bs_own hb3 hg1 own0) (by omega) (Nat.le_trans (by simp) hg1.size) ?_; intro A2 c2 w2 hown2 hg2 _))
  have hgb1 : Below w.heap.size w w1 := below_of_grown hbW3 (by simp; omega) own0 (by omega) hg1
  have hgb2 : Below w.heap.size w w2 := below_of_grown hgb1 hgb1.size hown1 (by omega) hg2
  have hbk2 : Blk w2 (w.heap.size + 1) 65 #[.slice none 0 0, .int .i64 0] := (hbk3.grown hg1 (notown own0 (by omega))).grown hg2 (notown hown1 (by omega))
  have hlen2 : (P ++ bs).length = n + m := by rw [List.length_append, hP.1, hb.1]
  have hA2 := hown2.le
  have hel2 : El w2 w.heap.size 5 (.slice A2 (n + m) c2) (P ++ bs) := hown2.el.lo (by omega)
  obtain ⟨N, hN⟩ : ∃ N, N = n + m := ⟨_, rfl⟩
  rw [← hN] at hlen2 hel2 ⊢
  have hNb : N ≤ 2199023255552 := by omega
  clear hP3 hb3 hbk3 hbW3 own0 hown1 hown2 hg1 hg2
  clear hN hA2
  go_loopg [7, 8] N (fun k av ov wr => RFeedAt w (P ++ bs) N k av ov wr)
  case atStart => exact ⟨P ++ bs, [], A2, c2, none, 0, hlen2, rfl, rfl, hel2, Outs.nil _ _ _ _, hbk2, hgb2, fun o' r e h => h, by simp⟩
  case round =>
    obtain ⟨al, o, Aa, ca, Ao, co, hal, rfl, rfl, hel, houts, hbk, hbw, hgo, hN⟩ := hrel
    obtain ⟨p, k, e, hft⟩ : ∃ p k e, ftake al = (p, k, e) := ⟨_, _, _, rfl⟩
    have htake := rtakeEl_any Aa gk ca al wr w.heap.size hel (by omega)
    rw [hft] at htake
    have HA := Lib.hid hal
    have HF := Lib.hid hft
    clear hal hft
    go_wp2_with fail
    refine htake.mono ?_
    rintro e' w3 ⟨A3, c3, rfl, hel3, hb3⟩
    have houts3 := houts.below hb3
    have hbk3 := hbk.stay hb3
    have hbw3 := hbw.trans (hb3.mono hbw.size)
    have hela := hel.below hb3
    have f0 := hbk3.frozen 0
    have f1 := hbk3.frozen 1
    have d0 : w3.cell? ⟨w.heap.size + 1, 0, none⟩ = some (.slice none 0 0) := hbk3.cell 0
    have d1 : w3.cell? ⟨w.heap.size + 1, 1, none⟩ = some (.int .i64 0) := hbk3.cell 1
    have hsub : Below w.heap.size w3 w3 := Below.refl _ _
    by_cases h11 : e = 11
    · subst h11
      have HP : Hid (Part al) := Lib.hid (by unfold Part; rw [HF.out])
      go_wp2_with fail
      refine bodyPost_ret (v := .tuple #[rk Aa gk ca 0, .slice Ao o.length co, .int .i64 0]) ?_ rfl ⟨o, al, 0, Aa, ca, Ao, co, ?_, ?_, ?_, ?_, ?_⟩
      · have hk1 := hbk3.set_ 0 (.slice Aa gk ca)
        have e0 : (w3.setCell ⟨w.heap.size + 1, 0, none⟩ (.slice Aa gk ca)).cell? ⟨w.heap.size + 1, 0, none⟩ = some (.slice Aa gk ca) := by rw [hk1.cell]; rfl
        have e1 : ((w3.setCell ⟨w.heap.size + 1, 0, none⟩ (.slice Aa gk ca)).setCell ⟨w.heap.size + 1, 1, none⟩ (.int .i64 0)).cell? ⟨w.heap.size + 1, 1, none⟩ = some (.int .i64 0) := by rw [(hk1.set_ 1 _).cell]; rfl
        simp [results, Tryd.results40, go_sem, rk, e0, e1]
      · have := hgo _ _ _ (Goes.stop HP.out); rwa [List.append_nil] at this
      · rw [HA.out]
      · rw [HA.out]; exact hela.typed only_two hbk3 (by decide)
      · exact houts3.typed only_two hbk3 (by decide) (by decide)
      · exact (hbw3.setCell (by simp) _).setCell (by simp) _
    · by_cases h0 : e = 0
      · subst h0
        have HG : Hid (ftake al = (p, k, 0)) := HF
        have hpos := ftake_pos HF.out
        rw [HA.out] at hpos
        obtain ⟨k1, k2, -⟩ := hpos
        obtain ⟨bA, oA, rfl, _, _⟩ := hela.open_.1.2 (by omega)
        obtain ⟨vs, v1, v2, v3⟩ := houts3
        have HV := Lib.hid v3
        have HV2 := Lib.hid v2
        have q1 : ∀ u ∈ [Value.slice A3 p.length c3], u.oneCell' = true := by simp [Value.oneCell']
        have q2 : (o.length + 1) * 24 ≤ 140737488355328 := by omega
        have q3 : o.length + 1 ≤ maxLen := by unfold maxLen; omega
        have Q := Lib.hid (And.intro q1 (And.intro q2 q3))
        clear q1 q2 q3 v3 v2
        have hca := hela.open_.2
        have i1 : (k : Int) ≤ (gk : Int) := by omega
        have i2 : (k : Int) ≤ (ca : Int) := by omega
        go_wp2_with (at_builtin; refine wpList_appv Tryd.underlying56 infoR rfl rfl (.tmp 41) (.tmp 43) rfl w.heap.size Ao o.length co vs rfl (v1.alloc _) (w3.heap.size + 1) (some ⟨w3.heap.size, 0, none⟩) 1 1 [Value.slice A3 p.length c3] rfl (VS.one w3 _ _) Q.out.1 Q.out.2.1 Q.out.2.2 (Nat.le_trans hbw3.size (by simp)) ?_; intro A4 c4 w4 hown4 hg4 hat4)
        all_goals
          go_roundg (gk - k)
          case measure => omega
          case rel =>
            have hal4 : Below w3.heap.size w3 (w3.alloc (.cells #[Value.slice A3 p.length c3] 23)) := (Below.refl _ _).alloc (Nat.le_refl _) _
            have houts4 := Outs.app (by decide) (v1.alloc _) HV2.out (fun j v bs hv hb => (HV.out j v bs hv hb).below hal4) (hel3.below hal4) hg4 hown4
            have hel4 := (hela.below hal4).row (v1.alloc _) hg4 (by decide)
            refine ⟨al.drop k, o ++ [p], _, _, A4, c4, by rw [List.length_drop, HA.out], rfl, by rw [List.length_append]; rfl, ?_, by rw [List.length_append]; exact houts4, ?_, ?_, ?_, ?_⟩
            · first
                | exact hel4.drop (k := k) (by omega) (by omega)
                | (rw [show gk - k = 0 by omega, List.drop_of_length_le (by rw [HA.out]; omega)]; exact El.nil _ _ _ _ _)
            · exact (hbk3.alloc _).grown hg4 (hbk3.row_ne v1 (by decide))
            · exact below_row (hbw3.alloc hbw3.size _) (Nat.le_trans hbw3.size (by simp)) (v1.alloc _) (Nat.le_refl _) hg4
            · intro o' r e h
              rw [List.append_assoc]
              exact hgo _ _ _ (Goes.more HF.out h)
            · rw [List.length_append]; simp only [List.length_cons, List.length_nil]; omega
      · have t0 : (e == 11) = false := by simpa using h11
        have t1 : (e != 0) = true := by simpa using h0
        go_wp2_with fail
        refine bodyPost_ret (v := .tuple #[rk none 0 0 e, .slice Ao o.length co, .int .i64 e]) ?_ rfl ⟨o, [], e, none, 0, Ao, co, ?_, ?_, ?_, ?_, ?_⟩
        · have hk1 := hbk3.set_ 0 (.slice none 0 0)
          have e0 : (w3.setCell ⟨w.heap.size + 1, 0, none⟩ (.slice none 0 0)).cell? ⟨w.heap.size + 1, 0, none⟩ = some (.slice none 0 0) := by rw [hk1.cell]; rfl
          have e1 : ((w3.setCell ⟨w.heap.size + 1, 0, none⟩ (.slice none 0 0)).setCell ⟨w.heap.size + 1, 1, none⟩ (.int .i64 e)).cell? ⟨w.heap.size + 1, 1, none⟩ = some (.int .i64 e) := by rw [(hk1.set_ 1 _).cell]; rfl
          simp [results, Tryd.results40, go_sem, rk, e0, e1]
        · have := hgo _ _ _ (Goes.bad (by rw [HF.out]) h0 h11); rwa [List.append_nil] at this
        · rfl
        · exact El.nil _ _ _ _ _
        · exact houts3.typed only_two hbk3 (by decide) (by decide)
        · exact (hbw3.setCell (by simp) _).setCell (by simp) _
end Go.Proofs.YtaaajmonabhdgaaDoor
