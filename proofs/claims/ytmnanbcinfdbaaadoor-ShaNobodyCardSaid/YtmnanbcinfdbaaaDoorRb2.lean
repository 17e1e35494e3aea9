/- The walk of the reference of sha: a block; conditions: none beyond its hypotheses. -/
import Derived.Test.YtmnanbcinfdbaaaDoorRb1
import Derived.Test.YtmnanbcinfdbaaaDoorSh3
import Derived.Test.YtmnanbcinfdbaaaDoorSs
import Derived.Deep.RegionLaw
namespace Go.Proofs.YtmnanbcinfdbaaaDoor
open Go.RowKit Go.Proofs.U
set_option linter.unusedVariables false

theorem info32 : (Tryd.prog.info? 34).map (fun i => (i.zero, i.size, i.bytes)) = some (some (.int .u32 0), 1, 4) := by kernel_rfl
/-- a slice of words that the call made -/
def OwnU (w : World) (base : Nat) (A : Option Addr) (n c : Nat) (l : List (BitVec 32)) : Prop := w.ownsRow base 34 1 (.slice A n c) n (l.map uv)
theorem OwnU.nil (w : World) (base : Nat) : OwnU w base none 0 0 [] := World.ownsRow_nil w base _ 1
theorem OwnU.below {w w' : World} {base n c : Nat} {A : Option Addr} {l : List (BitVec 32)} (h : OwnU w base A n c l) (hb : Below w.heap.size w w') : OwnU w' base A n c l :=
  World.ownsRow.kept (row := none) h ⟨hb.os, hb.tape, hb.output, hb.size, fun k hk _ => hb.block k hk⟩ (by
    cases A with
    | none => exact .inl rfl
    | some a => exact .inr (by simp [Value.ownBlock]))
theorem OwnU.mono {w : World} {base base' n c : Nat} {A : Option Addr} {l : List (BitVec 32)} (h : OwnU w base A n c l) (hb : base' ≤ base) : OwnU w base' A n c l := by
  refine ⟨h.1, ?_⟩
  rcases h.2 with h2 | ⟨g, cap, cur, hv, hg, r⟩
  · exact .inl h2
  · exact .inr ⟨g, cap, cur, hv, by omega, r⟩
theorem OwnU.vs {w : World} {base n c : Nat} {A : Option Addr} {l : List (BitVec 32)} (h : OwnU w base A n c l) : VS w w.heap.size A n (l.map uv) := ownsRow_vs h
theorem OwnU.len {w : World} {base n c : Nat} {A : Option Addr} {l : List (BitVec 32)} (h : OwnU w base A n c l) : l.length = n := by have := h.1; simpa using this
theorem OwnU.form {w : World} {base n c : Nat} {A : Option Addr} {l : List (BitVec 32)} (h : OwnU w base A n c l) (hn : 0 < n) : ∃ g, A = some ⟨g, 0, none⟩ ∧ base ≤ g ∧ g < w.heap.size := by
  obtain ⟨g, cap, hv, hb, hlt⟩ := World.ownsRow.form h hn
  injection hv with hA
  exact ⟨g, hA, hb, hlt⟩
theorem OwnU.le {w : World} {base n c : Nat} {A : Option Addr} {l : List (BitVec 32)} (h : OwnU w base A n c l) : n ≤ c := by
  rcases h.2 with ⟨hv, h0⟩ | ⟨g, cap, cur, hv, _, _, hnc, _⟩
  · omega
  · injection hv with _ _ hcc; omega
theorem VS.nth0 {w : World} {B n g k : Nat} {l : List (BitVec 32)} (h : VS w B (some ⟨g, 0, none⟩) n (l.map uv)) {x : BitVec 32} (hx : l[k]? = some x) : w.cell? ⟨g, k, none⟩ = some (.int .u32 (x.toNat : Int)) := by
  have := VS.nth h (v := uv x) (k := k) (by rw [List.getElem?_map, hx]; rfl)
  rwa [Nat.zero_add] at this
theorem VS.nthu {w : World} {B n g o k : Nat} {l : List (BitVec 32)} (h : VS w B (some ⟨g, o, none⟩) n (l.map uv)) {x : BitVec 32} (hx : l[k]? = some x) : w.cell? ⟨g, o + k, none⟩ = some (.int .u32 (x.toNat : Int)) :=
  VS.nth h (v := uv x) (k := k) (by rw [List.getElem?_map, hx]; rfl)
theorem VS.more {w : World} {B B' n : Nat} {A : Option Addr} {l : List Value} (h : VS w B A n l) (hB : B ≤ B') : VS w B' A n l :=
  ⟨h.1, fun hn => by obtain ⟨b, off, e, hb, hc⟩ := h.2 hn; exact ⟨b, off, e, by omega, hc⟩⟩
theorem VS.stay {w w' : World} {n : Nat} {A : Option Addr} {l : List Value} (h : VS w w.heap.size A n l) (hb : Below w.heap.size w w') : VS w' w'.heap.size A n l := VS.more (h.below hb) hb.size
theorem VS.fresh (w : World) (e : TypeId) (vs : List Value) : VS (w.alloc (.cells vs.toArray e)) (w.alloc (.cells vs.toArray e)).heap.size (some ⟨w.heap.size, 0, none⟩) vs.length vs :=
  ⟨rfl, fun _ => ⟨_, _, rfl, by simp, fun j hj => (cell_of_row _ w.heap.size (0 + j) vs.toArray e (0, 0) (heap_alloc_new w _)).trans (by simp [hj])⟩⟩
theorem VS.fresh' (w : World) (e : TypeId) (cs : Array Value) (vs : List Value) (n : Nat) (h : cs.toList = vs) (hn : vs.length = n) : VS (w.alloc (.cells cs e)) (w.alloc (.cells cs e)).heap.size (some ⟨w.heap.size, 0, none⟩) n vs := by
  subst h; subst hn
  exact VS.fresh w e cs.toList
theorem acc_mul (x : BitVec 32) (c : UInt8) : ((x.toNat : Int) * 256 % 4294967296 + (c.toNat : Int) % 4294967296) % 4294967296 = ((Sh.acc x c).toNat : Int) := by
  have hc := c.toNat_lt
  have h : (Sh.acc x c).toNat = x.toNat * 256 % 4294967296 + c.toNat := by
    unfold Sh.acc Sh.bw
    rw [BitVec.toNat_or, BitVec.toNat_shiftLeft, BitVec.toNat_ofNat, Nat.mod_eq_of_lt (a := c.toNat) (by omega)]
    have e1 : x.toNat <<< 8 % 2 ^ 32 = (x.toNat % 16777216) <<< 8 := by
      rw [Nat.shiftLeft_eq, Nat.shiftLeft_eq]; omega
    rw [e1, ← Nat.shiftLeft_add_eq_or_of_lt (by omega), Nat.shiftLeft_eq]
    omega
  rw [h]; have := x.isLt; omega
theorem oneU (l : List (BitVec 32)) : ∀ u ∈ l.map uv, u.oneCell' = true := by
  intro u hu; obtain ⟨x, _, rfl⟩ := List.mem_map.1 hu; rfl
theorem VS.oneu (w : World) (x : BitVec 32) : VS (w.alloc (.cells #[.int .u32 (x.toNat : Int)] 34)) (w.heap.size + 1) (some ⟨w.heap.size, 0, none⟩) 1 ([x].map uv) := VS.one w _ _
theorem rds_step (W : List (BitVec 32)) (s : Sh.V8) (k : Nat) (x : BitVec 32) (hx : W[k]? = some x) : Sh.rds W s (k + 1) = Sh.rnd (Sh.rds W s k) (Sh.K k) x := by
  show Sh.rnd _ (Sh.K k) (W.getD k 0#32) = _
  simp only [List.getD, hx, Option.getD_some]
theorem ext_of (l : List (BitVec 32)) (a d e f : BitVec 32) (ha : l[l.length - 16]? = some a) (hd : l[l.length - 7]? = some d) (he : l[l.length - 15]? = some e) (hf : l[l.length - 2]? = some f) :
    Sh.ext l = l ++ [ad (ad (ad a (Sh.sg2 e 7 18 3)) d) (Sh.sg2 f 17 19 10)] := by
  unfold Sh.ext ad
  simp only [List.getD, ha, hd, he, hf, Option.getD_some]
  congr 2
  ac_rfl
theorem below_row' {w0 w w' : World} {base n c : Nat} {A : Option Addr} {vs : List Value} {e : TypeId} (h : Below w0.heap.size w0 w) (hown : w.ownsRow base e 1 (.slice A n c) n vs) (hb : w0.heap.size ≤ base) (hg : w.grownBy w' (Value.slice A n c).ownBlock) : Below w0.heap.size w0 w' := below_row h h.size hown hb hg

theorem step_appv {P : Program} {w : World} {t e : TypeId} {z : Value} {by_ : Nat} (ht : P.underlying t = some (.slice e)) (hI : (P.info? e).map (fun i => (i.zero, i.size, i.bytes)) = some (some z, 1, by_)) (hz1 : z.cells.size = 1)
    {ops : Array Oper} {o : Oper} {a : Act} {K : Act → World → Prop} {Q : Exit → Act → World → Prop} {E : Prop} (hg : o.guard = none) (s x : Operand)
    (ho : o.op = .call { callee := .builtin .append, args := #[s, x], argTypes := #[t, t] })
    (base : Nat) (A : Option Addr) (n c : Nat) (vs : List Value) (hs : a.eval s = .slice A n c) (hown : w.ownsRow base e 1 (.slice A n c) n vs)
    (B : Nat) (A' : Option Addr) (m c' : Nat) (vs' : List Value) (hx : a.eval x = .slice A' m c') (hr : VS w B A' m vs') (h1 : ∀ u ∈ vs', u.oneCell' = true) (hlen : (n + m) * by_ ≤ 140737488355328) (hmax : n + m ≤ maxLen) (hbase : base ≤ w.heap.size)
    (h : ∀ A2 c2 w2, w2.ownsRow base e 1 (.slice A2 (n + m) c2) (n + m) (vs ++ vs') → w.grownBy w2 (Value.slice A n c).ownBlock → ((Value.slice A2 (n + m) c2).ownBlock = (Value.slice A n c).ownBlock ∨ (Value.slice A2 (n + m) c2).ownBlock = some w.heap.size) →
      K (a.put o.dst (.slice A2 (n + m) c2)) w2) : if Region.wanted o (yielded ops a.tmps) = true then Oper.wp P o a w K Q else E := by
  have hw : Region.wanted o (yielded ops a.tmps) = true := by simp [Region.wanted, hg]
  rw [if_pos hw]
  obtain ⟨A2, c2, w2, hrun, h2, h3, h4⟩ := run_appv (w := w) ht hI hz1 o.type base A n c vs hown B A' m c' vs' hr h1 hlen hmax hbase
  unfold Oper.wp execOp
  simp only [ho, resolve, invoke, builtin, Sem.run_bind, Sem.run_pure, Result.andThen_ok, List.map_toArray, List.map_cons, List.map_nil, hs, hx, hrun]
  exact h A2 c2 w2 h2 h3 h4

set_option maxRecDepth 100000 in
set_option maxHeartbeats 8000000 in
theorem rblock_any (Ah Ak Am : Option Addr) (ch ck cm : Nat) (s : Sh.V8) (m : List UInt8) (w : World) (hh : VS w w.heap.size Ah 8 (s.l.map uv)) (hk : VS w w.heap.size Ak 64 (((List.range 64).map Sh.K).map uv)) (hb : BS w w.heap.size Am 64 m) :
    Calls Tryd.prog 66 #[.slice Ah 8 ch, .slice Ak 64 ck, .slice Am 64 cm] w fun e w' => ∃ A c, e = .returned (.slice A 8 c) ∧ OwnU w' w.heap.size A 8 c (Sh.mixv s m).l ∧ Below w.heap.size w w' := by
  obtain ⟨bm, om, rfl, hblt, -⟩ := hb.2 (by omega)
  obtain ⟨bk, ok, rfl, hklt, -⟩ := hk.2 (by omega)
  obtain ⟨bh, oh, rfl, hhlt, -⟩ := hh.2 (by omega)
  go_enter Tryd.func66, Tryd.ntmps66
  go_wp2_with fail
  go_loopg [7, 8] 16 (fun r t i wr => ∃ k A c, r + k = 16 ∧ i = .int .i64 (k : Nat) ∧ t = .slice A k c ∧ OwnU wr w.heap.size A k c (Sh.w16 m k) ∧ Below w.heap.size w wr)
  case atStart => exact ⟨0, none, 0, rfl, rfl, rfl, OwnU.nil _ _, Below.refl _ _⟩
  case round =>
    obtain ⟨k, A, c, hgk, rfl, rfl, hown, hbw⟩ := hrel
    have HGK := Lib.hid hgk
    obtain ⟨wo, rfl⟩ : ∃ wo : World, wo = wr := ⟨_, rfl⟩
    by_cases hlt : k < 16
    · clear hgk
      go_wp2_with fail
      go_loop [9, 10] (fun y i => ∃ j : Nat, j ≤ 4 ∧ i = .int .i64 j ∧ y = .int .u32 ((wdk m k j).toNat : Int)) (fun _ i => 4 - (intOf i).toNat)
      case atStart => exact ⟨0, Nat.zero_le _, rfl, rfl⟩
      case round =>
        obtain ⟨j, hj, rfl, rfl⟩ := hrel
        by_cases hj4 : j < 4
        · obtain ⟨x, hx⟩ : ∃ x, m[4 * k + j]? = some x := ⟨_, List.getElem?_eq_getElem (by have := hb.1; omega)⟩
          have hcx : wo.cell? ⟨bm, om + (4 * k + j), none⟩ = some (.int .u8 (x.toNat : Int)) := (hbw.cell (p := ⟨bm, om + (4 * k + j), none⟩) hblt).trans (hb.cells _ x hx)
          have hw := wdk_succ m k j hj4 x hx
          have HW := Lib.hid hw
          clear hw hx
          obtain ⟨y, hy⟩ : ∃ y, y = wdk m k j := ⟨_, rfl⟩
          rw [← hy] at HW ⊢
          clear hy
          have i2 : (4 * (k : Int) + (j : Int)).toNat = 4 * k + j := by omega
          have i1 : 4 * (k : Int) + (j : Int) < 64 := by omega
          have i0 : 4 * k + j < 64 := by omega
          go_wp2_with fail
          go_round
          case rel => exact ⟨j + 1, by omega, by go_num, by rw [HW.out, ← acc_mul]⟩
          case measure => simp [intOf]; omega
        · obtain rfl : j = 4 := by omega
          rw [wdk_four]
          obtain ⟨y, hy⟩ : ∃ y, y = Sh.wd m k := ⟨_, rfl⟩
          have hs := w16_succ m k
          rw [← hy] at hs ⊢
          have HS := Lib.hid hs
          clear hs hy
          have hal : Below wo.heap.size wo (wo.alloc (.cells #[.int .u32 (y.toNat : Int)] 34)) := (Below.refl _ _).alloc (Nat.le_refl _) _
          have hq : (k + 1) * 4 ≤ 140737488355328 := by omega
          have hq2 : k + 1 ≤ maxLen := by unfold maxLen; omega
          have hbz : w.heap.size ≤ (wo.alloc (.cells #[.int .u32 (y.toNat : Int)] 34)).heap.size := Nat.le_trans hbw.size hal.size
          have hown1 := hown.below hal
          go_wp2_with (at_builtin; refine wpList_appv Tryd.underlying88 info32 rfl rfl (.tmp 44) (.tmp 46) rfl w.heap.size _ _ _ _ rfl hown1 _ _ 1 1 _ rfl (VS.oneu wo y) (oneU _) hq hq2 hbz ?_; intro A2 c2 w2 hown2 hg2 _)
          go_roundg (gk - 1)
          case measure => have := HGK.out; omega
          case rel =>
            refine ⟨k + 1, A2, c2, by have := HGK.out; omega, by go_num, rfl, ?_, below_row' (hbw.trans (hal.mono hbw.size)) hown1 (Nat.le_refl _) hg2⟩
            rw [← HS.out]; unfold OwnU; rw [List.map_append]; exact hown2
    · obtain rfl : k = 16 := by omega
      clear hgk HGK
      go_wp2_with fail
      go_loopg [7, 11] 48 (fun r t i wr => ∃ j A c, r + j = 64 ∧ 16 ≤ j ∧ j ≤ 64 ∧ i = .int .i64 (j : Nat) ∧ t = .slice A j c ∧ OwnU wr w.heap.size A j c (Sh.exts (j - 16) (Sh.w16 m 16)) ∧ Below w.heap.size w wr)
      case atStart => exact ⟨16, A, c, rfl, Nat.le_refl _, by omega, rfl, rfl, hown, hbw⟩
      case round =>
        clear hown hbw
        obtain ⟨j, A, c, hgk, hj0, hj, rfl, rfl, hown, hbw⟩ := hrel
        have HGK := Lib.hid hgk
        clear hgk
        obtain ⟨wp, rfl⟩ : ∃ wp : World, wp = wr := ⟨_, rfl⟩
        by_cases hj4 : j < 64
        · have hl : (Sh.exts (j - 16) (Sh.w16 m 16)).length = j := by rw [Sh.exts_len, Sh.w16_len]; omega
          have hx := Sh.exts_step (j - 16) (Sh.w16 m 16)
          rw [show j - 16 + 1 = j + 1 - 16 by omega] at hx
          obtain ⟨l, hll⟩ : ∃ l, l = Sh.exts (j - 16) (Sh.w16 m 16) := ⟨_, rfl⟩
          rw [← hll] at hx hl hown
          obtain ⟨a, ha⟩ : ∃ a, l[j - 16]? = some a := ⟨_, List.getElem?_eq_getElem (by omega)⟩
          obtain ⟨d, hd⟩ : ∃ d, l[j - 7]? = some d := ⟨_, List.getElem?_eq_getElem (by omega)⟩
          obtain ⟨e, he⟩ : ∃ e, l[j - 15]? = some e := ⟨_, List.getElem?_eq_getElem (by omega)⟩
          obtain ⟨f, hf⟩ : ∃ f, l[j - 2]? = some f := ⟨_, List.getElem?_eq_getElem (by omega)⟩
          have hnew := ext_of l a d e f (by rw [hl]; exact ha) (by rw [hl]; exact hd) (by rw [hl]; exact he) (by rw [hl]; exact hf)
          obtain ⟨g, rfl, hg1, hg2⟩ := hown.form (by omega)
          have g1 := VS.nth0 hown.vs ha
          have g2 := VS.nth0 hown.vs hd
          have g3 := VS.nth0 hown.vs he
          have g4 := VS.nth0 hown.vs hf
          have HG := Lib.hid (And.intro g1 (And.intro g2 (And.intro g3 g4)))
          have HX := Lib.hid hx
          have HL := Lib.hid hl
          have HN := Lib.hid hnew
          clear hx hl hll hnew ha hd he hf g1 g2 g3 g4
          have b1 : (0 : Int) ≤ (j : Int) - 16 := by omega
          have b2 : (0 : Int) ≤ (j : Int) - 7 := by omega
          have b3 : (0 : Int) ≤ (j : Int) - 15 := by omega
          have b4 : (0 : Int) ≤ (j : Int) - 2 := by omega
          have c1 : (16 : Int) ≤ (j : Int) := by omega
          have c2 : (7 : Int) ≤ (j : Int) := by omega
          have c3 : (15 : Int) ≤ (j : Int) := by omega
          have c4 : (2 : Int) ≤ (j : Int) := by omega
          have d1 : (j : Int) - 16 < (j : Int) := by omega
          have d2 : (j : Int) - 7 < (j : Int) := by omega
          have d3 : (j : Int) - 15 < (j : Int) := by omega
          have d4 : (j : Int) - 2 < (j : Int) := by omega
          have w1 : IntKind.i64.wrap ((j : Int) - 16) = (j : Int) - 16 := IntWalk.i64_in _ (by omega)
          have w2 : IntKind.i64.wrap ((j : Int) - 7) = (j : Int) - 7 := IntWalk.i64_in _ (by omega)
          have w3 : IntKind.i64.wrap ((j : Int) - 15) = (j : Int) - 15 := IntWalk.i64_in _ (by omega)
          have w4 : IntKind.i64.wrap ((j : Int) - 2) = (j : Int) - 2 := IntWalk.i64_in _ (by omega)
          have i1 : ((j : Int) - 16).toNat = j - 16 := by omega
          have i2 : ((j : Int) - 7).toNat = j - 7 := by omega
          have i3 : ((j : Int) - 15).toNat = j - 15 := by omega
          have i4 : ((j : Int) - 2).toNat = j - 2 := by omega
          go_wp2_with fail
          refine wp_region_class (C := fun w' => Drawn wp w') (by kernel_rfl) (by kernel_rfl) (Drawn.one _) ?_
          repeat
            (refine wpQuiet_step (fun K hK => ?_)
             rw [if_pos (by rfl)]
             apply Exists.intro
             refine ⟨fun w' hw' => ?_, hK _ ?_⟩
             · have e3 := (hw'.cell _).trans HG.out.2.2.1
               have e4 := (hw'.cell _).trans HG.out.2.2.2
               go_simp
               first
                 | done
                 | rfl
             clear hK K
             go_simp)
          refine wpQuiet_nil ?_
          intro w4 hw4
          obtain ⟨q4, rfl⟩ := hw4
          have hs0 : bx (bx (Sh.rotr e 7) (Sh.rotr e 18)) (bsr e 3) = Sh.sg2 e 7 18 3 := rfl
          have hs1 : bx (bx (Sh.rotr f 17) (Sh.rotr f 19)) (bsr f 10) = Sh.sg2 f 17 19 10 := rfl
          go_wp2_with fail
          refine (right7 e _).mono ?_
          rintro e' w' ⟨rfl, rfl⟩
          go_wp2_with fail
          refine (right18 e _).mono ?_
          rintro e' w' ⟨rfl, rfl⟩
          go_wp2_with fail
          refine (down3 e _).mono ?_
          rintro e' w' ⟨rfl, rfl⟩
          go_wp2_with fail
          refine (right17 f _).mono ?_
          rintro e' w' ⟨rfl, rfl⟩
          go_wp2_with fail
          refine (right19 f _).mono ?_
          rintro e' w' ⟨rfl, rfl⟩
          go_wp2_with fail
          refine (down10 f _).mono ?_
          rintro e' w' ⟨rfl, rfl⟩
          go_wp2_with fail
          clear hs0 hs1
          have hownD : OwnU (wp.drewN (q4 + 1)) w.heap.size (some ⟨g, 0, none⟩) j c l := hown
          have hbwD : Below w.heap.size w (wp.drewN (q4 + 1)) := below_drewN hbw _
          have hal : ∀ o, Below w.heap.size w ((wp.drewN (q4 + 1)).alloc o) := fun o => hbwD.alloc hbwD.size o
          have hq : (j + 1) * 4 ≤ 140737488355328 := by omega
          have hq2 : j + 1 ≤ maxLen := by unfold maxLen; omega
          have e3 := HG.out.1
          have e4 := HG.out.2.1
          go_region_law (refine step_appv Tryd.underlying88 info32 rfl rfl (.tmp 78) (.tmp 94) rfl w.heap.size _ j c _ rfl (hownD.below ((Below.refl _ _).alloc (Nat.le_refl _) _)) _ _ 1 1 _ rfl (VS.oneu _ _) (oneU _) hq hq2 (hal _).size ?_; intro A2 c2 w2 hown2 hg2 _; have hbw2 := below_row' (hal _) (hownD.below ((Below.refl _ _).alloc (Nat.le_refl _) _)) (Nat.le_refl _) hg2; clear hg2)
          all_goals
            clear e3 e4 hownD hal
            go_wp2_with fail
            go_roundg (gk - 1)
            case measure => have := HGK.out; omega
            case rel =>
              refine ⟨j + 1, A2, c2, by have := HGK.out; omega, by omega, by omega, by go_num, rfl, ?_, hbw2⟩
              rw [HX.out, HN.out]; unfold OwnU; rw [List.map_append]; exact hown2
        · obtain rfl : j = 64 := by omega
          have hsc : OwnU wp w.heap.size A 64 c (Sh.sched m) := hown
          obtain ⟨gw, rfl, hgw, hgwl⟩ := hsc.form (by omega)
          clear hown HGK
          have hv0 : VS wp wp.heap.size (some ⟨bh, oh, none⟩) 8 (s.l.map uv) := VS.more (hh.below hbw) hbw.size
          have hs0 : VS wp wp.heap.size (some ⟨gw, 0, none⟩) 64 ((Sh.sched m).map uv) := hsc.vs
          have hq : 0 + 8 ≤ maxLen := by unfold maxLen; omega
          go_wp2_with (at_builtin; refine wpList_appv Tryd.underlying88 info32 rfl rfl (.tmp 96) (.tmp 97) rfl wp.heap.size _ _ _ _ rfl (World.ownsRow_made wp #[] 0 (Nat.le_refl _) (by simp) rfl) _ _ 8 ch _ rfl (VS.stay hv0 ((Below.refl _ _).alloc (Nat.le_refl _) _)) (oneU _) (by omega) hq (by simp) ?_; intro A2 c2 w2 hown2 hg2 _)
          have hown3 : OwnU w2 wp.heap.size A2 8 c2 s.l := by simpa [OwnU] using hown2
          have hbp : Below wp.heap.size wp w2 := below_row' ((Below.refl _ _).alloc (Nat.le_refl _) _) (World.ownsRow_made wp #[] 0 (Nat.le_refl _) (by simp) rfl) (Nat.le_refl _) hg2
          clear hown2 hg2
          obtain ⟨g0, rfl, hg0, hgl0⟩ := hown3.form (by omega)
          have hv2 := hown3.vs
          have hs2 := VS.stay hs0 hbp
          have hbw2 := hbw.trans (hbp.mono hbw.size)
          have hk2 := VS.stay hk hbw2
          have hh2 := VS.stay hh hbw2
          clear hown3 hs0 hv0 hsc
          go_loopg [16, 17] 64 (fun r t i wr => ∃ k g c, r + k = 64 ∧ i = .int .i64 (k : Nat) ∧ t = .slice (some ⟨g, 0, none⟩) 8 c ∧ VS wr wr.heap.size (some ⟨g, 0, none⟩) 8 ((Sh.rds (Sh.sched m) s k).l.map uv) ∧ Below w2.heap.size w2 wr)
          case atStart => exact ⟨0, g0, c2, rfl, rfl, by simp, hv2, Below.refl _ _⟩
          case round =>
            clear hv2
            obtain ⟨k, g, c, hgk, rfl, rfl, hvr, hbr⟩ := hrel
            have HGK := Lib.hid hgk
            obtain ⟨wr0, rfl⟩ : ∃ wr0 : World, wr0 = wr := ⟨_, rfl⟩
            by_cases hlt : k < 64
            · clear hgk
              have hkk : ((List.range 64).map Sh.K)[k]? = some (Sh.K k) := by rw [List.getElem?_map, List.getElem?_range hlt]; rfl
              have q1 := VS.nthu (VS.stay hk2 hbr) hkk
              obtain ⟨x, hx⟩ : ∃ x, (Sh.sched m)[k]? = some x := ⟨_, List.getElem?_eq_getElem (by rw [Sh.sched_len]; exact hlt)⟩
              have q2 := VS.nth0 (VS.stay hs2 hbr) hx
              have hrd := rds_step _ s k x hx
              generalize Sh.rds (Sh.sched m) s k = v at hvr hrd
              obtain ⟨va, vb, vc, vd, ve, vf, vg, vh⟩ := v
              have HRD := Lib.hid hrd
              obtain ⟨kk, hkk'⟩ : ∃ kk, kk = Sh.K k := ⟨_, rfl⟩
              rw [← hkk'] at q1 HRD
              have p0 := VS.nth0 (k := 0) (x := va) hvr rfl
              have p1 := VS.nth0 (k := 1) (x := vb) hvr rfl
              have p2 := VS.nth0 (k := 2) (x := vc) hvr rfl
              have p3 := VS.nth0 (k := 3) (x := vd) hvr rfl
              have p4 := VS.nth0 (k := 4) (x := ve) hvr rfl
              have p5 := VS.nth0 (k := 5) (x := vf) hvr rfl
              have p6 := VS.nth0 (k := 6) (x := vg) hvr rfl
              have p7 := VS.nth0 (k := 7) (x := vh) hvr rfl
              clear hrd hx hkk hkk' hvr
              have HP := Lib.hid (And.intro p0 (And.intro p1 (And.intro p2 (And.intro p3 (And.intro p4 (And.intro p5 (And.intro p6 p7)))))))
              have HQ := Lib.hid (And.intro q1 q2)
              have hS1 : bx (bx (Sh.rotr ve 6) (Sh.rotr ve 11)) (Sh.rotr ve 25) = Sh.sg3 ve 6 11 25 := rfl
              have hS0 : bx (bx (Sh.rotr va 2) (Sh.rotr va 13)) (Sh.rotr va 22) = Sh.sg3 va 2 13 22 := rfl
              have hCh : bo (ba ve vf) (ba (nt ve) vg) = Sh.chf ve vf vg := by rw [nt_eq]; exact Sh.chf_or ve vf vg
              have hMa : bo (bo (ba va vb) (ba va vc)) (ba vb vc) = Sh.majf va vb vc := Sh.majf_or va vb vc
              have HS := Lib.hid (And.intro hS1 (And.intro hS0 (And.intro hCh hMa)))
              clear p0 p1 p2 p3 p4 p5 p6 p7 q1 q2 hS0 hCh hMa
              go_wp2_with fail
              refine wp_region_class (C := fun w' => Drawn wr0 w') (by kernel_rfl) (by kernel_rfl) ⟨1, rfl⟩ ?_
              repeat
                (refine wpQuiet_step (fun K hK => ?_)
                 rw [if_pos (by rfl)]
                 apply Exists.intro
                 refine ⟨fun w' hw' => ?_, hK _ ?_⟩
                 · have f0 := (hw'.cell _).trans HP.out.2.2.2.2.1
                   go_simp
                   first
                     | done
                     | (with_reducible refine (right6 ve w').mono ?_
                        rintro e' w1 ⟨rfl, rfl⟩
                        exact ⟨rfl, hw'⟩)
                     | (with_reducible refine (right11 ve w').mono ?_
                        rintro e' w1 ⟨rfl, rfl⟩
                        exact ⟨rfl, hw'⟩)
                     | (with_reducible refine (right25 ve w').mono ?_
                        rintro e' w1 ⟨rfl, rfl⟩
                        exact ⟨rfl, hw'⟩)
                     | rfl
                 clear hK K
                 go_simp)
              refine wpQuiet_nil ?_
              rintro w4 ⟨n1, rfl⟩
              have hCh := HS.out.2.2.1
              go_wp2_with fail
              refine wp_region_class (C := fun w' => Drawn wr0 w') (by kernel_rfl) (by kernel_rfl) ⟨n1 + 1, rfl⟩ ?_
              repeat
                (refine wpQuiet_step (fun K hK => ?_)
                 rw [if_pos (by rfl)]
                 apply Exists.intro
                 refine ⟨fun w' hw' => ?_, hK _ ?_⟩
                 · have f0 := (hw'.cell _).trans HP.out.2.2.2.2.1
                   have f1 := (hw'.cell _).trans HP.out.2.2.2.2.2.1
                   have f2 := (hw'.cell _).trans HP.out.2.2.2.2.2.2.1
                   go_simp
                   first
                     | done
                     | rfl
                 clear hK K
                 go_simp)
              refine wpQuiet_nil ?_
              rintro w4 ⟨n2, rfl⟩
              clear hS1 hCh
              go_wp2_with fail
              refine wp_region_class (C := fun w' => Drawn wr0 w') (by kernel_rfl) (by kernel_rfl) ⟨n2 + 1, rfl⟩ ?_
              repeat
                (refine wpQuiet_step (fun K hK => ?_)
                 rw [if_pos (by rfl)]
                 apply Exists.intro
                 refine ⟨fun w' hw' => ?_, hK _ ?_⟩
                 · have f0 := (hw'.cell _).trans HP.out.2.2.2.2.2.2.2
                   have f1 := (hw'.cell _).trans HQ.out.1
                   have f2 := (hw'.cell _).trans HQ.out.2
                   go_simp
                   first
                     | done
                     | rfl
                 clear hK K
                 go_simp)
              refine wpQuiet_nil ?_
              rintro w4 ⟨n3, rfl⟩
              have hS0 := HS.out.2.1
              go_wp2_with fail
              refine wp_region_class (C := fun w' => Drawn wr0 w') (by kernel_rfl) (by kernel_rfl) ⟨n3 + 1, rfl⟩ ?_
              repeat
                (refine wpQuiet_step (fun K hK => ?_)
                 rw [if_pos (by rfl)]
                 apply Exists.intro
                 refine ⟨fun w' hw' => ?_, hK _ ?_⟩
                 · have f0 := (hw'.cell _).trans HP.out.1
                   go_simp
                   first
                     | done
                     | (with_reducible refine (right2 va w').mono ?_
                        rintro e' w1 ⟨rfl, rfl⟩
                        exact ⟨rfl, hw'⟩)
                     | (with_reducible refine (right13 va w').mono ?_
                        rintro e' w1 ⟨rfl, rfl⟩
                        exact ⟨rfl, hw'⟩)
                     | (with_reducible refine (right22 va w').mono ?_
                        rintro e' w1 ⟨rfl, rfl⟩
                        exact ⟨rfl, hw'⟩)
                     | rfl
                 clear hK K
                 go_simp)
              refine wpQuiet_nil ?_
              rintro w4 ⟨n4, rfl⟩
              have hMa := HS.out.2.2.2
              go_wp2_with fail
              refine wp_region_class (C := fun w' => Drawn wr0 w') (by kernel_rfl) (by kernel_rfl) ⟨n4 + 1, rfl⟩ ?_
              repeat
                (refine wpQuiet_step (fun K hK => ?_)
                 rw [if_pos (by rfl)]
                 apply Exists.intro
                 refine ⟨fun w' hw' => ?_, hK _ ?_⟩
                 · have f0 := (hw'.cell _).trans HP.out.1
                   have f1 := (hw'.cell _).trans HP.out.2.1
                   have f2 := (hw'.cell _).trans HP.out.2.2.1
                   go_simp
                   first
                     | done
                     | rfl
                 clear hK K
                 go_simp)
              refine wpQuiet_nil ?_
              rintro w4 ⟨n5, rfl⟩
              clear hS0 hMa
              go_wp2_with fail
              refine wp_region_class_tail (C := fun w' => Drawn wr0 w') 28 (by kernel_rfl) (by kernel_rfl) ⟨n5 + 1, rfl⟩ ?_
              simp only [List.take_succ_cons, List.take_zero, List.drop_succ_cons, List.drop_zero]
              repeat
                (refine wpQuiet_step (fun K hK => ?_)
                 rw [if_pos (by rfl)]
                 apply Exists.intro
                 refine ⟨fun w' hw' => ?_, hK _ ?_⟩
                 · have f0 := (hw'.cell _).trans HP.out.1
                   have f1 := (hw'.cell _).trans HP.out.2.1
                   have f2 := (hw'.cell _).trans HP.out.2.2.1
                   have f3 := (hw'.cell _).trans HP.out.2.2.2.1
                   have f4 := (hw'.cell _).trans HP.out.2.2.2.2.1
                   have f5 := (hw'.cell _).trans HP.out.2.2.2.2.2.1
                   have f6 := (hw'.cell _).trans HP.out.2.2.2.2.2.2.1
                   go_simp
                   first
                     | done
                     | rfl
                 clear hK K
                 go_simp)
              refine wpQuiet_nil ?_
              rintro w4 ⟨n6, rfl⟩
              go_wp2_with fail
              go_roundg (gk - 1)
              case measure => have := HGK.out; omega
              case rel =>
                have e1 : (Sh.rnd ⟨va, vb, vc, vd, ve, vf, vg, vh⟩ kk x).l.map uv = [.int .u32 ((ad (ad (ad (ad (ad (ad vh (Sh.sg3 ve 6 11 25)) (bo (ba ve vf) (ba (nt ve) vg))) kk) x) (Sh.sg3 va 2 13 22)) (Sh.majf va vb vc)).toNat : Int), uv va, uv vb, uv vc, .int .u32 ((ad vd (ad (ad (ad (ad vh (Sh.sg3 ve 6 11 25)) (bo (ba ve vf) (ba (nt ve) vg))) kk) x)).toNat : Int), uv ve, uv vf, uv vg] := by
                  rw [HS.out.2.2.1]; simp only [Sh.rnd, Sh.V8.l, List.map, uv, ad, BitVec.add_assoc]
                refine ⟨k + 1, wr0.heap.size, 8, by have := HGK.out; omega, by go_num, rfl, ?_, (below_drewN hbr n6).alloc hbr.size _⟩
                rw [HRD.out, e1]
                exact VS.fresh' (wr0.drewN n6) 34 _ _ _ rfl rfl
            · obtain rfl : k = 64 := by omega
              have hmix : Sh.mixv s m = Sh.add8 s (Sh.rds (Sh.sched m) s 64) := rfl
              obtain ⟨V, hV⟩ : ∃ V, V = Sh.rds (Sh.sched m) s 64 := ⟨_, rfl⟩
              rw [← hV] at hvr hmix
              have hbz := hbw2.trans (hbr.mono hbw2.size)
              obtain ⟨M, hM⟩ : ∃ M, M = Sh.mixv s m := ⟨_, rfl⟩
              rw [← hM] at hmix
              have HMM := Lib.hid hM
              have HM := Lib.hid hmix
              have hh3 := VS.stay hh2 hbr
              clear hmix hV hM hgk HGK
              go_wp2_with fail
              go_loopg [23, 24] 8 (fun r t i wr => ∃ k A c, r + k = 8 ∧ i = .int .i64 (k : Nat) ∧ t = .slice A k c ∧ OwnU wr wr0.heap.size A k c (M.l.take k) ∧ Below wr0.heap.size wr0 wr)
              case atStart => exact ⟨0, none, 0, rfl, rfl, rfl, OwnU.nil _ _, Below.refl _ _⟩
              case round =>
                obtain ⟨k, A, c', hgk, rfl, rfl, hown, hbq⟩ := hrel
                have HGK := Lib.hid hgk
                obtain ⟨wq, rfl⟩ : ∃ wq : World, wq = wr := ⟨_, rfl⟩
                by_cases hlt8 : k < 8
                · clear hgk
                  obtain ⟨x, hx⟩ : ∃ x, s.l[k]? = some x := ⟨_, List.getElem?_eq_getElem (by rw [v8_len]; exact hlt8)⟩
                  obtain ⟨y, hy⟩ : ∃ y, V.l[k]? = some y := ⟨_, List.getElem?_eq_getElem (by rw [v8_len]; exact hlt8)⟩
                  have hz := add8_at s V k x y hx hy
                  rw [← HM.out] at hz
                  have htk : M.l.take (k + 1) = M.l.take k ++ [ad x y] := by rw [List.take_add_one, hz]; rfl
                  have HT := Lib.hid htk
                  have r1 := VS.nthu (VS.stay hh3 hbq) hx
                  have r2 := VS.nth0 (VS.stay hvr hbq) hy
                  have hbwq := hbz.trans (hbq.mono hbz.size)
                  have hownD : OwnU (wq.drewN 1) wr0.heap.size A k c' (M.l.take k) := hown
                  have hbwD : Below w.heap.size w (wq.drewN 1) := below_drewN hbwq _
                  have hal : ∀ o, Below w.heap.size w ((wq.drewN 1).alloc o) := fun o => hbwD.alloc hbwD.size o
                  have hal2 : ∀ o, Below wr0.heap.size wr0 ((wq.drewN 1).alloc o) := fun o => (below_drewN hbq 1).alloc hbq.size o
                  have hq : (k + 1) * 4 ≤ 140737488355328 := by omega
                  have hq2 : k + 1 ≤ maxLen := by unfold maxLen; omega
                  clear htk hz hx hy
                  go_wp2_with fail
                  go_region_law (refine step_appv Tryd.underlying88 info32 rfl rfl (.tmp 220) (.tmp 230) rfl wr0.heap.size _ k c' _ rfl (hownD.below ((Below.refl _ _).alloc (Nat.le_refl _) _)) _ _ 1 1 _ rfl (VS.oneu _ _) (oneU _) hq hq2 (hal2 _).size ?_; intro A2 c2 w2 hown2 hg2 _; have hbw3 := below_row' (hal2 _) (hownD.below ((Below.refl _ _).alloc (Nat.le_refl _) _)) (Nat.le_refl _) hg2; clear hg2)
                  all_goals
                    clear r1 r2 hal hal2
                    go_wp2_with fail
                    go_roundg (gk - 1)
                    case measure => have := HGK.out; omega
                    case rel =>
                      refine ⟨k + 1, A2, c2, by have := HGK.out; omega, by go_num, rfl, ?_, hbw3⟩
                      rw [HT.out]; unfold OwnU; rw [List.map_append]; exact hown2
                · obtain rfl : k = 8 := by omega
                  go_wp2_with fail
                  go_ret
                  refine ⟨_, _, rfl, ?_, hbz.trans (hbq.mono hbz.size)⟩
                  rw [List.take_of_length_le (by rw [v8_len]; omega)] at hown
                  rw [← HMM.out]; exact hown.mono hbz.size
end Go.Proofs.YtmnanbcinfdbaaaDoor
