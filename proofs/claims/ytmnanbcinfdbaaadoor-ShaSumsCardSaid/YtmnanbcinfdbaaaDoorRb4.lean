/- The walk of the reference of sha: the digest; conditions: none beyond its hypotheses. -/
import Derived.Test.YtmnanbcinfdbaaaDoorRb3
import Derived.Test.YtmnanbcinfdbaaaDoorSh8
namespace Go.Proofs.YtmnanbcinfdbaaaDoor
open Go.RowKit Go.Proofs.U
set_option linter.unusedVariables false

theorem zeroA : (Tryd.prog.info? 24).map (fun i => (i.zero, i.size)) = some (some (.agg ((List.replicate 32 (0 : UInt8)).map bv).toArray), 32) := by kernel_rfl
/-- the bytes of which a part is known -/
def Part (cs : Array Value) (D : List UInt8) (p : Nat → Prop) : Prop := cs.size = 32 ∧ ∀ k, p k → ∀ x, D[k]? = some x → cs[k]? = some (bv x)
theorem Part.set {cs : Array Value} {D : List UInt8} {p q : Nat → Prop} {k : Nat} {x : UInt8} (h : Part cs D p) (hx : D[k]? = some x) (hk : k < 32) (hq : ∀ j, q j → j = k ∨ p j) : Part (cs.setIfInBounds k (bv x)) D q := by
  refine ⟨by simp [h.1], fun j hj y hy => ?_⟩
  by_cases e : j = k
  · subst e
    rw [hx] at hy; injection hy with hy; subst hy
    rw [Array.getElem?_setIfInBounds, if_pos rfl, if_pos (by rw [h.1]; exact hk)]
  · rw [Array.getElem?_setIfInBounds_ne (by omega)]
    rcases hq j hj with e2 | e2
    · exact absurd e2 e
    · exact h.2 j e2 y hy
theorem Part.all {cs : Array Value} {D : List UInt8} (h : Part cs D (fun k => k < 32)) (hD : D.length = 32) : cs = (D.map bv).toArray := by
  apply Array.ext_getElem?
  intro k
  by_cases hk : k < 32
  · obtain ⟨x, hx⟩ : ∃ x, D[k]? = some x := ⟨_, List.getElem?_eq_getElem (by omega)⟩
    rw [h.2 k hk x hx, List.getElem?_toArray, List.getElem?_map, hx]; rfl
  · rw [Array.getElem?_eq_none (by rw [h.1]; omega), Array.getElem?_eq_none (by simp [hD]; omega)]
theorem zeros_snoc (L : List UInt8) (j : Nat) : L ++ 128 :: List.replicate j 0 ++ [0] = L ++ 128 :: List.replicate (j + 1) 0 := by
  rw [List.replicate_succ']; simp
theorem bsr_bsr (x : BitVec 32) (a b : Nat) : bsr (bsr x a) b = bsr x (a + b) := by unfold bsr; rw [BitVec.shiftRight_add]
theorem wbytes_at (x : BitVec 32) (j : Nat) (h : j < 4) : (Sh.wbytes x)[j]? = some (lo8 (bsr x (8 * (3 - j)))) := by
  match j, h with
  | 0, _ => rw [lo8_sh x 24 16777216 (by decide)]; rfl
  | 1, _ => rw [lo8_sh x 16 65536 (by decide)]; rfl
  | 2, _ => rw [lo8_sh x 8 256 (by decide)]; rfl
  | 3, _ => rw [lo8_sh x 0 1 (by decide), Nat.div_one]; rfl

def ADigRet (w : World) (L : List UInt8) (e : Ending) (w' : World) : Prop := e = .returned (.agg ((Sh.dig L).map bv).toArray) ∧ Below w.heap.size w w'

set_option maxRecDepth 100000 in
set_option maxHeartbeats 8000000 in
theorem rsum_any (A : Option Addr) (n c : Nat) (bs : List UInt8) (w : World) (hb : BS w w.heap.size A n bs) (hc : n ≤ c) (hn : n ≤ 549755813888) :
    Calls Tryd.prog 18 #[.slice A n c] w (ADigRet w bs) := by
  obtain ⟨hz, hs⟩ := Go.zero_of_info zeroA
  obtain ⟨z, hzz⟩ : ∃ z, z = ((List.replicate 32 (0 : UInt8)).map bv).toArray := ⟨_, rfl⟩
  rw [← hzz] at hz
  have hzs : z.size = 32 := by rw [hzz]; rfl
  have Hzs := Lib.hid (And.intro hs hzs)
  clear hzz hs hzs
  have hl := hb.1
  have HL := Lib.hid hl
  clear hl
  go_enter Tryd.func18, Tryd.ntmps18
  go_wp2_with fail
  have hb0 : Below w.heap.size w (w.alloc (.cells z 24)) := (Below.refl _ _).alloc (Nat.le_refl _) _
  have hd0 : Blk (w.alloc (.cells z 24)) w.heap.size 24 z := Blk.new _ _ _
  generalize (w.alloc (.cells z 24)) = w0 at hb0 hd0 ⊢
  refine (consts_any w0).mono ?_
  rintro e w1 ⟨g1, g2, rfl, hh1, hk1, hb1⟩
  have hd1 := hd0.stay hb1
  have hbw1 := hb0.trans (hb1.mono hb0.size)
  have hdl := hd0.lt
  have hbs1 := (hb.below hbw1).more hbw1.size
  have hq1 : 0 + n ≤ 140737488355328 := by omega
  have hq2 : n + 1 ≤ 140737488355328 := by omega
  have hal1 : ∀ o, Below w1.heap.size w1 (w1.alloc o) := fun o => (Below.refl _ _).alloc (Nat.le_refl _) _
  go_wp2_with (first
    | (at_builtin; refine wpList_app bt rfl (.tmp 15) (.tmp 16) rfl w1.heap.size _ _ _ [] rfl (Own.made w1 _ _ (Nat.le_refl _)) _ _ _ _ bs rfl (hbs1.below (hal1 _)) hq1 (hal1 _).size ?_; intro A2 c2 w2 hown2 hg2 _; have hb2 : Below w1.heap.size w1 w2 := below_of_grown (hal1 _) (hal1 _).size (Own.made w1 _ _ (Nat.le_refl _)) (Nat.le_refl _) hg2; simp only [Nat.zero_add, List.nil_append] at hown2 ⊢; have hal2 : ∀ o, Below w1.heap.size w1 (w2.alloc o) := fun o => hb2.alloc hb2.size o; have hown2b : ∀ o, Own (w2.alloc o) w1.heap.size 5 A2 n c2 bs := fun o => hown2.alloc o; clear hg2 hown2)
    | (at_builtin; refine wpList_app bt rfl (.tmp 17) (.tmp 18) rfl w1.heap.size _ _ _ bs rfl (hown2b _) _ _ _ _ [128] rfl (BS.fresh w2 5 [128]) hq2 (hal2 _).size ?_; intro A3 c3 w3 hown3 hg3 _; have hb3 : Below w1.heap.size w1 w3 := below_of_grown (hal2 _) (hal2 _).size (hown2b _) (Nat.le_refl _) hg3; clear hg3 hown2b hal2))
  clear hal1
  obtain ⟨Z, hZ⟩ : ∃ Z, Z = (119 - n % 64) % 64 := ⟨_, rfl⟩
  have HZ := Lib.hid hZ
  clear hZ hq1 hq2
  go_loopg [5] Z (fun r t wr => ∃ j A c, r + j = Z ∧ t = .slice A (n + 1 + j) c ∧ Own wr w1.heap.size 5 A (n + 1 + j) c (bs ++ 128 :: List.replicate j 0) ∧ Below w1.heap.size w1 wr)
  case atStart => exact ⟨0, A3, c3, rfl, rfl, hown3, hb3⟩
  case round =>
    clear hown3 hb3
    obtain ⟨j, A, c, hgk, rfl, hown, hbr⟩ := hrel
    have HGK := Lib.hid hgk
    obtain ⟨wr0, rfl⟩ : ∃ wr0 : World, wr0 = wr := ⟨_, rfl⟩
    by_cases hlt : j < Z
    · have e1 : (((n : Int) + 1 + (j : Int)) % 64 == 56) = false := by rw [beq_eq_false_iff_ne]; have := HZ.out; omega
      have e2 : (((n : Int) + 1 + (j : Int)) % 64 != 56) = true := by rw [bne_iff_ne]; have := HZ.out; omega
      have hal : ∀ o, Below w1.heap.size w1 (wr0.alloc o) := fun o => hbr.alloc hbr.size o
      have hownb : ∀ o, Own (wr0.alloc o) w1.heap.size 5 A (n + 1 + j) c (bs ++ 128 :: List.replicate j 0) := fun o => hown.alloc o
      have hZ64 : Z < 64 := by have := HZ.out; omega
      have hq : n + 1 + j + 1 ≤ 140737488355328 := by omega
      have hsn := zeros_snoc bs j
      have HS := Lib.hid hsn
      clear hsn hgk
      go_wp2_with (at_builtin; refine wpList_app bt rfl (.tmp 24) (.tmp 25) rfl w1.heap.size _ _ _ _ rfl (hownb _) _ _ _ _ [0] rfl (BS.fresh wr0 5 [0]) hq (hal _).size ?_; intro A4 c4 w4 hown4 hg4 _; have hb4 : Below w1.heap.size w1 w4 := below_of_grown (hal _) (hal _).size (hownb _) (Nat.le_refl _) hg4; clear hg4)
      go_roundg (gk - 1)
      case measure => have := HGK.out; omega
      case rel => exact ⟨j + 1, A4, c4, by have := HGK.out; omega, rfl, by rw [← HS.out]; exact hown4, hb4⟩
    · obtain rfl : j = Z := by omega
      have e1 : (((n : Int) + 1 + (j : Int)) % 64 == 56) = true := by rw [beq_iff_eq]; have := HZ.out; omega
      have e2 : (((n : Int) + 1 + (j : Int)) % 64 != 56) = false := by rw [bne_eq_false_iff_eq]; have := HZ.out; omega
      have hz0 : bs ++ 128 :: List.replicate j 0 = bs ++ Sh.zeros bs := by rw [HZ.out]; unfold Sh.zeros; rw [HL.out]
      rw [hz0] at hown
      have HZ0 := Lib.hid hz0
      have hZ64 : j < 64 := by have := HZ.out; omega
      clear hz0 hgk
      go_wp2_with fail
      rw [show (8 * (n : Int)) = ((8 * n : Nat) : Int) by omega]
      refine (reight_any (8 * n) (by omega) wr0).mono ?_
      rintro e w2' ⟨A5, c5, rfl, hown5, hb5⟩
      have hbr5 : Below w1.heap.size w1 w2' := hbr.trans (hb5.mono hbr.size)
      have hown6 := hown.below hb5
      have hq : n + 1 + j + 8 ≤ 140737488355328 := by omega
      clear hown e1 e2
      go_wp2_with (at_builtin; refine wpList_app bt rfl (.tmp 27) (.tmp 31) rfl w1.heap.size _ _ _ _ rfl hown6 _ _ _ _ _ rfl hown5.bs hq hbr5.size ?_; intro A7 c7 w7 hown7 hg7 _)
      have hbr7 : Below w1.heap.size w1 w7 := below_of_grown hbr5 hbr5.size hown6 (Nat.le_refl _) hg7
      obtain ⟨P, hP⟩ : ∃ P, P = Sh.padded bs := ⟨_, rfl⟩
      have hPe : bs ++ Sh.zeros bs ++ Sh.eightb (8 * n) = P := by rw [hP]; unfold Sh.padded; rw [HL.out]
      rw [hPe] at hown7
      obtain ⟨N, hN⟩ : ∃ N, n + 1 + j + 8 = 64 * N := by
        have h1 := Sh.padded_len bs
        rw [← hP, hown7.len] at h1
        exact ⟨(n + 1 + j + 8) / 64, by omega⟩
      have HP := Lib.hid hP
      have hNn : N ≤ 10000000000 := by omega
      have hN0 : 0 < N := by omega
      have hNN : (n : Int) + 1 + (j : Int) + 8 = 64 * (N : Int) := by omega
      rw [hN] at hown7 ⊢
      have hPl : P.length = 64 * N := hown7.len
      have HPL := Lib.hid hPl
      clear hP hPe hN hg7 hown6 hown5 hbs1 hlt hPl
      have hc7 := hown7.le
      obtain ⟨g7, rfl, hg7, hgl7⟩ := hown7.form (by omega)
      have hbp := hown7.bs
      have hh7 := VS.stay hh1 hbr7
      have hk7 := VS.stay hk1 hbr7
      have hd7 := hd1.stay hbr7
      have hbw7 := hbw1.trans (hbr7.mono hbw1.size)
      clear hh1 hk1 hd1 hown7 hNN
      go_loopg [3, 6] N (fun r t i wr => ∃ k g c, r + k = N ∧ i = .int .i64 ((64 * k : Nat) : Int) ∧ t = .slice (some ⟨g, 0, none⟩) 8 c ∧ VS wr wr.heap.size (some ⟨g, 0, none⟩) 8 ((Sh.eat k Sh.H0 P).l.map uv) ∧ Below w7.heap.size w7 wr)
      case atStart => exact ⟨0, g1, 8, rfl, rfl, rfl, hh7, Below.refl _ _⟩
      case round =>
        clear hh7
        obtain ⟨k, g, c, hgk, rfl, rfl, hvr, hbq⟩ := hrel
        have HGK := Lib.hid hgk
        obtain ⟨wq, rfl⟩ : ∃ wq : World, wq = wr := ⟨_, rfl⟩
        by_cases hlt : k < N
        · clear hgk
          have i1 : (64 * k : Int) ≤ 64 * (k : Int) + 64 := by omega
          have i2 : (64 * (k : Int) + 64).toNat = 64 * k + 64 := by omega
          have i3 : (64 * (k : Int)).toNat = 64 * k := by omega
          have i4 : 64 * k + 64 - 64 * k = 64 := by omega
          have i5 : 64 * (k : Int) + 64 ≤ (c7 : Int) := by omega
          have i6 : ¬ c7 = 64 * k := by omega
          have i7 : 64 * (k : Int) < 64 * (N : Int) := by omega
          have i8 : 64 * k < 64 * N := by omega
          have hbk : BS wq wq.heap.size (some ⟨g7, 64 * k, none⟩) 64 ((P.drop (64 * k)).take 64) := by
            have h1 := ((hbp.below hbq).more hbq.size).drop (k := 64 * k) (by omega)
            rw [Nat.zero_add] at h1
            exact h1.take (by omega)
          have hkk := VS.stay hk7 hbq
          go_wp2_with fail
          refine (rblock_any _ _ _ _ _ _ (Sh.eat k Sh.H0 P) ((P.drop (64 * k)).take 64) wq hvr hkk hbk).mono ?_
          rintro e w8 ⟨A8, c8, rfl, hown8, hb8⟩
          obtain ⟨g8, rfl, hg8, hgl8⟩ := hown8.form (by omega)
          clear i1 i2 i3 i4 i5 i6 i7 i8
          go_wp2_with fail
          go_roundg (gk - 1)
          case measure => have := HGK.out; omega
          case rel => exact ⟨k + 1, g8, c8, by have := HGK.out; omega, by go_num, rfl, hown8.vs, hbq.trans (hb8.mono hbq.size)⟩
        · obtain rfl : k = N := by omega
          have hst : Sh.eat k Sh.H0 P = Sh.st (Sh.padded bs) := by
            unfold Sh.st; rw [← HP.out, HPL.out, Nat.mul_div_cancel_left _ (by omega)]
          rw [hst] at hvr
          have hdg : Sh.dig bs = (Sh.st (Sh.padded bs)).l.flatMap Sh.wbytes := rfl
          obtain ⟨V, hV⟩ : ∃ V, V = Sh.st (Sh.padded bs) := ⟨_, rfl⟩
          rw [← hV] at hvr hdg
          obtain ⟨D, hD⟩ : ∃ D, D = Sh.dig bs := ⟨_, rfl⟩
          have hDl : D.length = 32 := by rw [hD]; exact Sh.dig_len _
          rw [← hD] at hdg
          have HD := Lib.hid (And.intro hD (And.intro hdg hDl))
          have hdq := hd7.stay hbq
          have hbwq := hbw7.trans (hbq.mono hbw7.size)
          have e7 : ¬ (64 * (k : Int)) < 64 * (k : Int) := by omega
          clear hst hV hdg hD hDl hgk HGK hd7
          go_wp2_with fail
          have hbz : Below wq.heap.size wq (wq.alloc (.cells z 24)) := (Below.refl _ _).alloc (Nat.le_refl _) _
          have hoz : Blk (wq.alloc (.cells z 24)) wq.heap.size 24 z := Blk.new _ _ _
          have hvz := VS.stay hvr hbz
          have hdz := hdq.stay hbz
          have hbwz := hbwq.trans (hbz.mono hbwq.size)
          have hql : wq.heap.size < (wq.alloc (.cells z 24)).heap.size := hoz.lt
          have hpz : Part z D (fun p => p < 4 * 0) := ⟨Hzs.out.2, fun p hp => by omega⟩
          generalize (wq.alloc (.cells z 24)) = wz at hbz hoz hvz hdz hbwz hql ⊢
          have hgq : g < wq.heap.size := by
            obtain ⟨b, o, e, hlt, _⟩ := hvr.2 (by omega)
            injection e with e; injection e with e1; omega
          have hwq := hdq.lt
          clear hvr hdq
          go_loopg [8] 8 (fun r i wr => ∃ k cs, r + k = 8 ∧ i = .int .i64 (k : Nat) ∧ Blk wr wq.heap.size 24 cs ∧ Part cs D (fun p => p < 4 * k) ∧ wz.grownBy wr (some wq.heap.size))
          case atStart => exact ⟨0, z, rfl, rfl, hoz, hpz, World.grownBy.refl _ _⟩
          case round =>
            clear hoz hpz
            obtain ⟨i, cs, hgk, rfl, hblk, hpart, hgr⟩ := hrel
            have HGK := Lib.hid hgk
            obtain ⟨wp, rfl⟩ : ∃ wp : World, wp = wr := ⟨_, rfl⟩
            by_cases hlt8 : i < 8
            · clear hgk
              obtain ⟨y, hy⟩ : ∃ y, V.l[i]? = some y := ⟨_, List.getElem?_eq_getElem (by rw [v8_len]; exact hlt8)⟩
              have r1 : wp.cell? ⟨g, i, none⟩ = some (.int .u32 (y.toNat : Int)) := by
                rw [World.cell?_of_block (hgr.block g (by omega) (by intro e; injection e; omega))]
                exact VS.nth0 hvz hy
              have hfl : ∀ j, j < 4 → D[4 * i + j]? = some (lo8 (bsr y (8 * (3 - j)))) := fun j hj => by
                rw [HD.out.2.1, flat_at V i j y hy hj, wbytes_at y j hj]
              have HF := Lib.hid hfl
              clear hy hfl
              go_wp2_with fail
              clear r1
              obtain ⟨gq, rfl⟩ : ∃ gq, gq = gk := ⟨_, rfl⟩
              go_loopg [9, 10] 4 (fun r x j wr => ∃ m cs, r + m = 4 ∧ j = .int .i64 (3 - ((m : Nat) : Int)) ∧ x = .int .u32 ((bsr y (8 * m)).toNat : Int) ∧ Blk wr wq.heap.size 24 cs ∧ Part cs D (fun p => p < 4 * i ∨ (4 * i + 3 < p + m ∧ p < 4 * i + 4)) ∧ wz.grownBy wr (some wq.heap.size))
              case atStart => exact ⟨0, cs, rfl, rfl, by simp [bsr], hblk, ⟨hpart.1, fun p hp x hx => hpart.2 p (by omega) x hx⟩, hgr⟩
              case round =>
                clear hblk hpart hgr
                obtain ⟨m, cs, hgk, rfl, rfl, hblk, hpart, hgr⟩ := hrel
                have HGK4 := Lib.hid hgk
                obtain ⟨ws, rfl⟩ : ∃ ws : World, ws = wr := ⟨_, rfl⟩
                by_cases hlt4 : m < 4
                · clear hgk
                  have hx := HF.out (3 - m) (by omega)
                  rw [show 3 - (3 - m) = m by omega] at hx
                  have hbb := bsr_bsr y (8 * m) 8
                  rw [show 8 * m + 8 = 8 * (m + 1) by omega] at hbb
                  obtain ⟨u, hu⟩ : ∃ u, u = bsr y (8 * m) := ⟨_, rfl⟩
                  rw [← hu] at hx hbb ⊢
                  obtain ⟨cv, hcv⟩ : ∃ cv, cs[4 * i + (3 - m)]? = some cv := ⟨_, Array.getElem?_eq_getElem (by rw [hpart.1]; omega)⟩
                  have hset := hpart.set hx (by omega) (q := fun p => p < 4 * i ∨ (4 * i + 3 < p + (m + 1) ∧ p < 4 * i + 4)) (by omega)
                  have hblk2 := hblk.set_ (4 * i + (3 - m)) (bv (lo8 u))
                  rw [← hblk.cell] at hcv
                  have hfr := hblk.frozen (4 * i + (3 - m))
                  have HB := Lib.hid (And.intro hset (And.intro hblk2 hbb))
                  have j1 : (0 : Int) ≤ 3 - (m : Int) := by omega
                  have j2 : (4 * (i : Int) + (3 - (m : Int))).toNat = 4 * i + (3 - m) := by omega
                  have j3 : 4 * (i : Int) + (3 - (m : Int)) < 32 := by omega
                  have j4 : (0 : Int) ≤ 4 * (i : Int) + (3 - (m : Int)) := by omega
                  have j5 : (m : Int) ≤ 3 := by omega
                  clear hx hbb hu hset hblk2
                  go_wp2_with fail
                  go_roundg (gk - 1)
                  case measure => have := HGK4.out; omega
                  case rel => exact ⟨m + 1, _, by have := HGK4.out; omega, by go_num, by rw [← HB.out.2.2], HB.out.2.1, HB.out.1, only_setCell hgr (.inl rfl) _⟩
                · obtain rfl : m = 4 := by omega
                  go_wp2_with fail
                  go_roundg (gq - 1)
                  case measure => have := HGK.out; omega
                  case rel => exact ⟨i + 1, cs, by have := HGK.out; omega, by go_num, hblk, ⟨hpart.1, fun p hp x hx => hpart.2 p (by omega) x hx⟩, hgr⟩
            · obtain rfl : i = 8 := by omega
              have hcs := hpart.all HD.out.2.2
              subst hcs
              have hds := hdz.grown hgr (by intro e; injection e; omega)
              have hzz := Hzs.out
              have hsz : (D.map bv).toArray.size = 32 := by simp [HD.out.2.2]
              have HSZ := Lib.hid hsz
              clear hzz hsz
              have hbwp : Below w.heap.size w wp := hbwz.grown hgr hbwz.size (fun k hk => by injection hk with hk; have := hbwq.size; omega)
              go_wp2_with (first
                | (refine wpList_load_blk rfl 24 (.tmp 7) rfl wq.heap.size rfl 24 _ _ hblk Tryd.underlying24 rfl (by rw [HSZ.out]; exact Hzs.out.1) ?_)
                | (refine wpList_store_blk rfl 24 (.tmp 2) (.tmp 69) rfl w.heap.size _ rfl rfl _ _ hds (by rw [HSZ.out]; exact Hzs.out.1) (by rw [HSZ.out]; exact Hzs.out.2) (dig_all _) ?_; intro w4 hb4 hg4))
              refine bodyPost_ret (v := .agg (D.map bv).toArray) ?_ rfl ⟨by rw [← HD.out.1], hbwp.grown hg4 hbwp.size (fun k hk => by injection hk; omega)⟩
              refine results_cell_row Tryd.results18 _ _ w.heap.size _ _ (0, 0) _ ?_ hb4 Tryd.underlying24 rfl (by rw [HSZ.out]; exact Hzs.out.1)
              rfl
end Go.Proofs.YtmnanbcinfdbaaaDoor
