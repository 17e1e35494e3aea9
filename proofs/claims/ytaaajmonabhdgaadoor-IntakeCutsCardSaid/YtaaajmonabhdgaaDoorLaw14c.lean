/- The walk of IntakeCuts; conditions: none beyond its hypotheses. -/
import Derived.Test.YtaaajmonabhdgaaDoorLaw14
import Derived.Test.YtaaajmonabhdgaaDoorSame14
namespace Go.Proofs.YtaaajmonabhdgaaDoor
open Go.RowKit Go.Proofs.U
set_option linter.unusedVariables false

theorem Goes.ends' {a : List UInt8} {o r e} (h : Goes a o r e) : (e = 0 → Part r) ∧ (e ≠ 0 → r = []) := by
  induction h with
  | stop h => exact ⟨fun _ => h, fun h => absurd rfl h⟩
  | bad _ h _ => exact ⟨fun h' => absurd h' h, fun _ => rfl⟩
  | more _ _ ih => exact ih
theorem goes_len {a : List UInt8} {o r e} (h : Goes a o r e) : 10 * o.length + r.length ≤ a.length := by
  induction h with
  | stop h => simp
  | bad _ h _ => simp
  | more h _ ih =>
    have := ftake_pos h
    rw [List.length_drop] at ih
    simp only [List.length_cons]
    omega
theorem goes_app {a : List UInt8} {o r} {e : Int} (h : Goes a o r e) (he : e = 0) (y : List UInt8) {o' r' e'} (h' : Goes (r ++ y) o' r' e') : Goes (a ++ y) (o ++ o') r' e' := by
  induction h with
  | stop h => exact h'
  | bad _ h _ => exact absurd he h
  | @more a p n out r e h1 _ ih =>
    have hp : ¬ Part a := by unfold Part; rw [h1]; simp
    have hpos := ftake_pos h1
    refine Goes.more ((ftake_more a y hp).trans h1) ?_
    rw [List.drop_append_of_le_length hpos.2.1]
    exact ih he h'
theorem goes_err {a : List UInt8} {o r} {e : Int} (h : Goes a o r e) (he : e ≠ 0) (y : List UInt8) : Goes (a ++ y) o [] e := by
  induction h with
  | stop h => exact absurd rfl he
  | @bad a e h1 h2 h3 =>
    have hp : ¬ Part a := by unfold Part; rw [h1]; exact h3
    exact .bad (by rw [ftake_more a y hp]; exact h1) h2 h3
  | @more a p n out r e h1 _ ih =>
    have hp : ¬ Part a := by unfold Part; rw [h1]; simp
    have hpos := ftake_pos h1
    refine Goes.more ((ftake_more a y hp).trans h1) ?_
    rw [List.drop_append_of_le_length hpos.2.1]
    exact ih he
/-- what comes of bytes behind what is held, or behind an error -/
def After (r : List UInt8) (e : Int) (x : List UInt8) (o' : List (List UInt8)) (r' : List UInt8) (e' : Int) : Prop := (e = 0 ∧ Goes (r ++ x) o' r' e') ∨ (e ≠ 0 ∧ r = [] ∧ o' = [] ∧ r' = [] ∧ e' = e)
theorem After.app {r x y : List UInt8} {e : Int} {o1 r1 e1 o' r' e'} (h : After r e x o1 r1 e1) (h' : After r1 e1 y o' r' e') : After r e (x ++ y) (o1 ++ o') r' e' := by
  rcases h with ⟨he, hg⟩ | ⟨he, hr, rfl, rfl, rfl⟩
  · refine .inl ⟨he, ?_⟩
    rw [← List.append_assoc]
    rcases h' with ⟨he1, hg'⟩ | ⟨he1, hr1, rfl, rfl, rfl⟩
    · exact goes_app hg he1 y hg'
    · rw [List.append_nil]; exact goes_err hg he1 y
  · rcases h' with ⟨he1, _⟩ | ⟨_, _, rfl, rfl, rfl⟩
    · exact absurd he1 he
    · exact .inr ⟨he, hr, rfl, rfl, rfl⟩
theorem After.all (r : List UInt8) (e : Int) (hr : e ≠ 0 → r = []) (x : List UInt8) : ∃ o' r' e', After r e x o' r' e' := by
  by_cases he : e = 0
  · obtain ⟨o, r', e', h⟩ := Goes.all (r ++ x); exact ⟨o, r', e', .inl ⟨he, h⟩⟩
  · exact ⟨_, _, _, .inr ⟨he, hr he, rfl, rfl, rfl⟩⟩
theorem After.ends {r x : List UInt8} {e : Int} {o1 r1 e1} (h : After r e x o1 r1 e1) : (e1 = 0 → Part r1) ∧ (e1 ≠ 0 → r1 = []) := by
  rcases h with ⟨he, hg⟩ | ⟨he, hr, rfl, rfl, rfl⟩
  · exact hg.ends'
  · exact ⟨fun h => absurd h he, fun _ => rfl⟩

/-- a feed, whatever the state -/
def FeedAny (w : World) (g : Nat) (r : List UInt8) (e : Int) (x : List UInt8) (en : Ending) (w' : World) : Prop :=
  ∃ o1 r1 e1 A c, After r e x o1 r1 e1 ∧ en = .returned (.tuple #[.slice A o1.length c, .int .i64 e1]) ∧ Outs w' w.heap.size 23 5 A o1.length c o1 ∧ Ink w' g r1 e1 ∧ w.grownBy w' (some g)
theorem feedAny_any (g : Nat) (r : List UInt8) (e : Int) (w : World) (hk : Ink w g r e) (hP : e = 0 → Part r) (hr : e ≠ 0 → r = []) (A : Option Addr) (n c : Nat) (bs : List UInt8) (hb : BS w w.heap.size A n bs) (ho : Off g A n) (hn : n ≤ 1099511627776) (hc : n ≤ c) (hT : Nib w) :
    Calls Tryd.prog 34 #[.pointer (some ⟨g, 0, none⟩), .slice A n c] w (FeedAny w g r e bs) := by
  by_cases he : e = 0
  · subst he
    refine (feed_any g r w hk (hP rfl) A n c bs hb ho hn hc hT).mono ?_
    rintro en w' ⟨o1, r1, e1, A1, c1, hg, rfl, houts, hink, hgr⟩
    exact ⟨o1, r1, e1, A1, c1, .inl ⟨rfl, hg⟩, rfl, houts, hink, hgr⟩
  · refine (feedBad_any g r e he _ w hk).mono ?_
    rintro en w' ⟨rfl, rfl⟩
    obtain rfl := hr he
    exact ⟨[], [], e, none, 0, .inr ⟨he, rfl, rfl, rfl, rfl⟩, rfl, Outs.nil _ _ _ _, hk, World.grownBy.refl _ _⟩

def CutsAt (w w3 : World) (g2 : Nat) (bs : List UInt8) (p t : Value) (wr : World) : Prop :=
  ∃ o rs r e Ap cp, p = .slice Ap o.length cp ∧ (∃ Ar cr, t = .slice Ar rs.length cr ∧ BS w w.heap.size Ar rs.length rs ∧ rs.length ≤ cr) ∧ rs.length ≤ bs.length ∧ Outs wr w3.heap.size 23 5 Ap o.length cp o ∧ Ink wr g2 r e ∧ (e = 0 → Part r) ∧ (e ≠ 0 → r = []) ∧ w3.grownBy wr (some g2) ∧
    ∀ o' r' e', After r e rs o' r' e' → Goes bs (o ++ o') r' e'

set_option maxHeartbeats 4000000 in
theorem intakeCuts_any (A : Option Addr) (n c : Nat) (bs : List UInt8) (A' : Option Addr) (m d : Nat) (zs : List Nat) (w : World) (hb : BS w w.heap.size A n bs) (hn : n ≤ maxLen) (hc : n ≤ c) (hz : VS w w.heap.size A' m (zs.map fun (z : Nat) => Value.int .u16 (z : Int))) (hzb : ∀ z ∈ zs, z < 65536) (hm : m ≤ maxLen) (hT : Nib w) :
    Calls Tryd.prog 10 #[.slice A n c, .slice A' m d] w (Yes w) := by
  unfold maxLen at hn hm
  by_cases hl : n ≤ 10000 ∧ m ≤ 200
  · obtain ⟨hn2, hm2⟩ := hl
    have t1 : decide ((10000 : Int) < (n : Int)) = false := by simp; omega
    have t2 : decide ((200 : Int) < (m : Int)) = false := by simp; omega
    obtain ⟨hz0, hs⟩ := Go.zero_of_info zero_ink
    obtain ⟨z, hzz⟩ : ∃ z, z = ink0 := ⟨_, rfl⟩
    have Hz := Lib.hid hzz
    rw [← hzz] at hz0
    clear hzz
    go_enter Tryd.func10, Tryd.ntmps10
    go_wp2_with fail
    refine (new_any w).mono ?_
    rintro e w1 ⟨g, rfl, hg, hink, hb1⟩
    have hgl := hink.lt
    go_wp2_with fail
    have hinkT : Ink (w1.alloc (.cells z 55)) w1.heap.size [] 0 := by
      refine ⟨List.replicate 1410 0, by rw [List.length_replicate, List.length_nil, Nat.zero_add], ?_⟩
      have := Blk.new w1 55 z
      rw [Hz.out] at this ⊢
      rw [← ink0_eq]; exact this
    have hb2 : Below w.heap.size w (w1.alloc (.cells z 55)) := hb1.alloc hb1.size _
    have hink2 := hink.below ((Below.refl w1.heap.size w1).alloc (Nat.le_refl _) (.cells z 55))
    have hs2 : (w1.alloc (.cells z 55)).heap.size = w1.heap.size + 1 := by simp
    generalize (w1.alloc (.cells z 55)) = w2 at hinkT hb2 hink2 hs2 ⊢
    have hs2' : w1.heap.size < w2.heap.size := by omega
    clear hs2
    have hoffA : ∀ (g : Nat), w.heap.size ≤ g → ∀ (X : Option Addr) (k : Nat) (xs : List UInt8), BS w w.heap.size X k xs → Off g X k := fun g hg X k xs hx h0 a ha => by
      obtain ⟨b', off', hA, hlt', _⟩ := hx.2 h0
      rw [hA] at ha; injection ha with ha; subst ha; simp only; omega
    have HO := Lib.hid hoffA
    clear hoffA
    refine (feedAny_any g [] 0 w2 hink2 (fun _ => part_nil) (fun _ => rfl) A n c bs ((hb.below hb2).more hb2.size) (HO.out g hg _ _ _ hb) (by omega) hc (hT.stay hb2)).mono ?_
    rintro e w3 ⟨oa, ra, ea, A3, c3, hgo3, rfl, houts3, hink3, hgr3⟩
    have hGA : Goes bs oa ra ea := by
      rcases hgo3 with ⟨_, h⟩ | ⟨h, _⟩
      · exact h
      · exact absurd rfl h
    have HGA := Lib.hid hGA
    clear hgo3 hGA hink hink2
    have hinkT3 := hinkT.grown hgr3 (by intro e; injection e; omega)
    have hb3 := below_of_only hb2 hb2.size hgr3 (fun k hk => by injection hk; omega)
    have hss3 := houts3.ss
    have hg13 : g ≠ w1.heap.size := by omega
    clear hgr3 houts3 hinkT
    go_wp2_with fail
    have hbl := hb.1
    have HBL := Lib.hid hbl
    clear hbl
    go_loopw [9, 10, 39] (fun p t i wr => ∃ k : Nat, k ≤ m ∧ i = .int .i64 k ∧ CutsAt w w3 w1.heap.size bs p t wr) (fun _ _ i _ => m - (intOf i).toNat)
    case atStart => exact ⟨0, Nat.zero_le _, rfl, [], bs, [], 0, none, 0, rfl, ⟨A, c, by rw [HBL.out], by rw [HBL.out]; exact hb, by rw [HBL.out]; exact hc⟩, Nat.le_refl _, Outs.nil _ _ _ _, hinkT3, fun _ => part_nil, fun _ => rfl, World.grownBy.refl _ _, fun o' r' e' h => by
        rcases h with ⟨_, h⟩ | ⟨h, _⟩
        · exact h
        · exact absurd rfl h⟩
    case round =>
      obtain ⟨k, hk, rfl, o, rs, r, e, Ap, cp, rfl, ⟨Ar, cr, rfl, hrs, hcr⟩, hrl, houts, hink, hre, hrn, hgr, hinv⟩ := hrel
      obtain ⟨wo, rfl⟩ : ∃ wo : World, wo = wr := ⟨_, rfl⟩
      have hbw := below_of_only hb3 hb3.size hgr (fun k hk => by injection hk; have := hb1.size; omega)
      by_cases hlt : k < m
      · obtain ⟨b, off, v, rfl, hbB, hx, hcell⟩ := (hz.below hbw).at_ hlt
        obtain ⟨x, hxz, rfl⟩ : ∃ x : Nat, x ∈ zs ∧ v = .int .u16 (x : Int) := by
          simp only [List.getElem?_map, Option.map_eq_some_iff] at hx
          obtain ⟨x, hz1, hz2⟩ := hx
          exact ⟨x, List.mem_of_getElem? hz1, hz2.symm⟩
        have hx2 := hzb x hxz
        clear hx hxz
        have HI := Lib.hid hinv
        have HE := Lib.hid (And.intro hre hrn)
        clear hinv hre hrn
        obtain ⟨y, hy⟩ : ∃ y : Nat, (x : Int) % 50 = (y : Int) := ⟨x % 50, by omega⟩
        have hy49 : y < 50 := by omega
        have hTo := hT.stay hbw
        have hwS : w.heap.size ≤ w1.heap.size := hb1.size
        have hone : ∀ (rs1 : List UInt8) (A1 : Option Addr) (c1 : Nat), BS w w.heap.size A1 rs1.length rs1 → rs1.length ≤ c1 → rs1.length ≤ 20000 →
            Calls Tryd.prog 34 #[.pointer (some ⟨w1.heap.size, 0, none⟩), .slice A1 rs1.length c1] wo (FeedAny wo w1.heap.size r e rs1) := fun rs1 A1 c1 h1 h2 h3 =>
          feedAny_any w1.heap.size r e wo hink HE.out.1 HE.out.2 A1 _ c1 rs1 ((h1.below hbw).more hbw.size) (HO.out _ hwS _ _ _ h1) (by omega) h2 hTo
        have HONE := Lib.hid hone
        clear hone
        have hrb : rs.length ≤ 10000 := by have := HBL.out; omega
        have ways : (y < rs.length) ∨ (y = rs.length ∧ cr = rs.length) ∨ (y = rs.length ∧ cr ≠ rs.length) ∨ (rs.length < y ∧ cr = rs.length) ∨ (rs.length < y ∧ cr ≠ rs.length) := by omega
        rcases ways with hq | ⟨hq, hq'⟩ | ⟨hq, hq'⟩ | ⟨hq, hq'⟩ | ⟨hq, hq'⟩
        focus
          obtain ⟨bR, oR, rfl, _, _⟩ := hrs.2 (by omega)
          have hq1 : (y : Int) ≤ (rs.length : Int) := by omega
          have hq2 : (y : Int) ≤ (cr : Int) := by omega
          have hq3 : ¬ cr = y := by omega
          have htl : (rs.take y).length = y := by simp; omega
          have hF := HONE.out (rs.take y) (some ⟨bR, oR, none⟩) cr (by rw [htl]; exact hrs.take (by omega)) (by omega) (by omega)
          have hdl : (rs.drop y).length = rs.length - y := by simp
          have hR : BS w w.heap.size (some ⟨bR, oR + y, none⟩) (rs.drop y).length (rs.drop y) := by rw [hdl]; exact hrs.drop (by omega)
          have hsp : rs.take y ++ rs.drop y = rs := List.take_append_drop _ _
          have hcx : (rs.drop y).length ≤ cr - y := by omega
          obtain ⟨rs1, hrs1⟩ : ∃ rs1, rs1 = rs.take y := ⟨_, rfl⟩
          obtain ⟨rs2, hrs2⟩ : ∃ rs2, rs2 = rs.drop y := ⟨_, rfl⟩
          rw [← hrs1, ← hrs2] at hsp
          rw [htl, ← hrs1] at hF
          rw [← hrs2] at hR hdl hcx
          have HS := Lib.hid hsp
          have HDL := Lib.hid hdl
          have HCX := Lib.hid hcx
          clear htl hrs1 hrs2 hsp hdl hcx
          go_wp2_with fail
        rotate_left
        focus
          subst hq
          subst hq'
          have hF := HONE.out rs Ar rs.length hrs (Nat.le_refl _) (by omega)
          obtain ⟨rs2, hrs2⟩ : ∃ rs2 : List UInt8, rs2 = [] := ⟨_, rfl⟩
          have HS : Hid (rs ++ rs2 = rs) := Lib.hid (by rw [hrs2, List.append_nil])
          have HR2 := Lib.hid hrs2
          clear hrs2
          go_wp2_with fail
        rotate_left
        focus
          subst hq
          have hq2 : (rs.length : Int) ≤ (cr : Int) := by omega
          have hF := HONE.out rs Ar cr hrs hcr (by omega)
          obtain ⟨rs2, hrs2⟩ : ∃ rs2 : List UInt8, rs2 = [] := ⟨_, rfl⟩
          have HS : Hid (rs ++ rs2 = rs) := Lib.hid (by rw [hrs2, List.append_nil])
          have HR2 := Lib.hid hrs2
          clear hrs2
          go_wp2_with fail
        rotate_left
        focus
          subst hq'
          have hq1 : (rs.length : Int) < (y : Int) := by omega
          have hF := HONE.out rs Ar rs.length hrs (Nat.le_refl _) (by omega)
          obtain ⟨rs2, hrs2⟩ : ∃ rs2 : List UInt8, rs2 = [] := ⟨_, rfl⟩
          have HS : Hid (rs ++ rs2 = rs) := Lib.hid (by rw [hrs2, List.append_nil])
          have HR2 := Lib.hid hrs2
          clear hrs2
          go_wp2_with fail
        rotate_left
        focus
          have hq1 : (rs.length : Int) < (y : Int) := by omega
          have hq2 : (rs.length : Int) ≤ (cr : Int) := by omega
          have hF := HONE.out rs Ar cr hrs hcr (by omega)
          obtain ⟨rs2, hrs2⟩ : ∃ rs2 : List UInt8, rs2 = [] := ⟨_, rfl⟩
          have HS : Hid (rs ++ rs2 = rs) := Lib.hid (by rw [hrs2, List.append_nil])
          have HR2 := Lib.hid hrs2
          clear hrs2
          go_wp2_with fail
        rotate_left
        all_goals
          refine hF.mono ?_
          rintro e' w4 ⟨o1, r1, e1, A1, c1, hgo1, rfl, houts1, hink1, hgr1⟩
          obtain ⟨o2, r2, e2, hgo2⟩ := After.all r1 e1 hgo1.ends.2 rs2
          have hbd := goes_len (HI.out _ _ _ (by have := hgo1.app hgo2; rw [HS.out] at this; exact this))
          rw [HBL.out] at hbd
          simp only [List.length_append] at hbd
          have hol : o.length + o1.length ≤ 1000 := by omega
          clear hbd hgo2
          have houts4 := houts.only hgr1 (fun k hk => by injection hk with hk; have := hinkT3.lt; omega)
          have houts5 := houts1.lo (Nat.le_trans hgr.size (Nat.le_refl _))
          obtain ⟨vs, v1, v2, v3⟩ := houts4
          obtain ⟨us, u1, u2, u3⟩ := houts5
          have Q := Lib.hid (And.intro (ownsRow_one u2 u3) (And.intro (show (o.length + o1.length) * 24 ≤ 140737488355328 by omega) (show o.length + o1.length ≤ maxLen by unfold maxLen; omega)))
          have HV := Lib.hid (And.intro v2 v3)
          have HU := Lib.hid (And.intro u2 u3)
          have HGO := Lib.hid hgo1
          clear v2 v3 u2 u3 hgo1
          have hsz4 : w3.heap.size ≤ w4.heap.size := Nat.le_trans hgr.size hgr1.size
          go_wp2_with (at_builtin; refine wpList_appv Tryd.underlying56 infoS rfl rfl (.tmp 56) (.tmp 57) rfl w3.heap.size Ap o.length cp vs rfl v1 w4.heap.size A1 o1.length c1 us rfl (ownsRow_vs u1) Q.out.1 Q.out.2.1 Q.out.2.2 hsz4 ?_; intro A5 c5 w5 hown5 hg5 hat5)
          have hgr4 : w3.grownBy w4 (some w1.heap.size) := only_trans hgr hgr1
          have houts6 := Outs.grow (by decide) v1 HV.out.1 HV.out.2 HU.out.1 HU.out.2 hg5 hown5
          go_roundw
          case measure => simp [intOf]; omega
          case rel =>
            refine ⟨k + 1, by omega, by go_num, o ++ o1, rs2, r1, e1, A5, c5, by rw [List.length_append], ?_, ?_, by rw [List.length_append]; exact houts6, hink1.grown hg5 (notown v1 hinkT3.lt), HGO.out.ends.1, HGO.out.ends.2, only_own hgr4 v1 hg5, ?_⟩
            · first
                | exact ⟨_, _, by rw [HDL.out], hR, HCX.out⟩
                | (rw [HR2.out]; exact ⟨_, _, rfl, BS.nil _ _ _, Nat.zero_le _⟩)
            · have := congrArg List.length HS.out
              rw [List.length_append] at this
              omega
            · intro o' r' e' h
              rw [List.append_assoc]
              exact HI.out _ _ _ (by have := HGO.out.app h; rw [HS.out] at this; exact this)
      · have HI := Lib.hid hinv
        have HE := Lib.hid (And.intro hre hrn)
        clear hinv hre hrn
        have hrb : rs.length ≤ 10000 := by have := HBL.out; omega
        go_wp2_with fail
        refine (feedAny_any w1.heap.size r e wo hink HE.out.1 HE.out.2 Ar _ cr rs ((hrs.below hbw).more hbw.size) (HO.out _ hb1.size _ _ _ hrs) (by omega) hcr (hT.stay hbw)).mono ?_
        rintro e' w4 ⟨o1, r1, e1, A1, c1, hgo1, rfl, houts1, hink1, hgr1⟩
        have hgo : Goes bs (o ++ o1) r1 e1 := HI.out _ _ _ hgo1
        obtain ⟨d1, d2, d3⟩ := HGA.out.det hgo
        have hbd := goes_len hgo
        rw [HBL.out] at hbd
        simp only [List.length_append] at hbd
        have hol : o.length + o1.length ≤ 1000 := by omega
        clear hbd
        have houts4 := houts.only hgr1 (fun k hk => by injection hk with hk; have := hinkT3.lt; omega)
        have houts5 := houts1.lo (Nat.le_trans hgr.size (Nat.le_refl _))
        obtain ⟨vs, v1, v2, v3⟩ := houts4
        obtain ⟨us, u1, u2, u3⟩ := houts5
        have Q := Lib.hid (And.intro (ownsRow_one u2 u3) (And.intro (show (o.length + o1.length) * 24 ≤ 140737488355328 by omega) (show o.length + o1.length ≤ maxLen by unfold maxLen; omega)))
        have HV := Lib.hid (And.intro v2 v3)
        have HU := Lib.hid (And.intro u2 u3)
        have HD := Lib.hid (And.intro d1 (And.intro d2 d3))
        clear v2 v3 u2 u3 hgo1 hgo d1 d2 d3
        have hsz4 : w3.heap.size ≤ w4.heap.size := Nat.le_trans hgr.size hgr1.size
        go_wp2_with (at_builtin; refine wpList_appv Tryd.underlying56 infoS rfl rfl (.tmp 68) (.tmp 69) rfl w3.heap.size Ap o.length cp vs rfl v1 w4.heap.size A1 o1.length c1 us rfl (ownsRow_vs u1) Q.out.1 Q.out.2.1 Q.out.2.2 hsz4 ?_; intro A5 c5 w5 hown5 hg5 hat5)
        have hgr5 : w3.grownBy w5 (some w1.heap.size) := only_own (only_trans hgr hgr1) v1 hg5
        have houts6 := (Outs.grow (by decide) v1 HV.out.1 HV.out.2 HU.out.1 HU.out.2 hg5 hown5).ss
        have hinkA := hink3.grown hgr5 (by intro e; injection e; omega)
        have hinkB := hink1.grown hg5 (notown v1 hinkT3.lt)
        have hsA := hss3.only hgr5 (Nat.le_refl _) (fun k hk => by injection hk with hk; left; omega)
        have hb5 := below_of_only hb3 hb3.size hgr5 (fun k hk => by injection hk with hk; have := hb1.size; omega)
        rw [HD.out.1, List.length_append] at hsA ⊢
        rw [HD.out.2.1, HD.out.2.2] at hinkA
        refine (samess_any A3 (o.length + o1.length) c3 A5 c5 (o ++ o1) _ _ _ _ w5 hsA houts6 (by omega)).mono ?_
        rintro e' w6 ⟨rfl, hd6⟩
        have hinkA6 : Ink w6 g r1 e1 := by obtain ⟨q, rfl⟩ := hd6; exact hinkA
        have hinkB6 : Ink w6 w1.heap.size r1 e1 := by obtain ⟨q, rfl⟩ := hd6; exact hinkB
        have hb6 := hb5.trans (hd6.below _)
        clear hd6
        go_wp2_with fail
        refine (held_any g _ _ _ hinkA6).mono ?_
        rintro e' w' ⟨rfl, rfl⟩
        go_wp2_with fail
        refine (held_any _ _ _ _ hinkB6).mono ?_
        rintro e' w' ⟨rfl, rfl⟩
        go_wp2_with fail
        refine (fault_any g _ _ _ hinkA6).mono ?_
        rintro e' w' ⟨rfl, rfl⟩
        go_wp2_with fail
        refine (fault_any _ _ _ _ hinkB6).mono ?_
        rintro e' w' ⟨rfl, rfl⟩
        go_wp2_with fail
        refine (lives14 _ (hT.stay hb6)).mono ?_
        rintro e' w7 ⟨rfl, hb7⟩
        go_wp2_with fail
        go_ret
        exact ⟨by simp, hb6.trans (hb7.mono hb6.size)⟩
  · have hg : decide ((10000 : Int) < (n : Int)) = true ∨ (decide ((10000 : Int) < (n : Int)) = false ∧ decide ((200 : Int) < (m : Int)) = true) := by
      simp only [decide_eq_true_eq, decide_eq_false_iff_not]; omega
    rcases hg with g1 | ⟨g1, g2⟩
    all_goals
      go_enter Tryd.func10, Tryd.ntmps10
      go_wp2_with fail
      refine (lives14 _ hT).mono ?_
      rintro e w5 ⟨rfl, hb5⟩
      go_wp2_with fail
      go_ret
      exact ⟨by simp, hb5⟩
end Go.Proofs.YtaaajmonabhdgaaDoor
