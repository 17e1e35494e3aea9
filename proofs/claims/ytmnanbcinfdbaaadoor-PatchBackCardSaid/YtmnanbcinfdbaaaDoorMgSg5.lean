/- The walk of Find; conditions: none beyond its hypotheses. -/
import Derived.Test.YtmnanbcinfdbaaaDoorMgSg2
import Derived.Test.YtmnanbcinfdbaaaDoorMgSl
import Derived.Laws.StructEq
import Derived.Deep.MidRow
set_option linter.unusedSimpArgs false
set_option linter.unusedVariables false
section
namespace Go.Proofs.U
open Go.RowKit
set_option linter.unusedVariables false
theorem run_eq_arr2 {P : Program} (w : World) (d : Nat) (t e : TypeId) (n : Nat) (kk : IntKind) (cs ds : Array Value) (xs ys : Nat → Int) (ht : P.underlying t = some (.array n e)) (hu : P.underlying e = some (.int kk)) (he : (P.info? e).map (·.size) = some 1)
    (hc : ∀ i, i < n → cs[i]? = some (.int kk (xs i))) (hd : ∀ i, i < n → ds[i]? = some (.int kk (ys i))) : (Op.equalIn (d + 2) t (.agg cs) (.agg ds)).run P w = .ok ((List.range n).all fun i => xs i == ys i) w := by
  cases hq : P.info? e with
  | none => simp [hq] at he
  | some inf =>
    have hs : inf.size = 1 := by simpa [hq] using he
    unfold Op.equalIn
    simp only [Sem.run_bind, run_underlying ht, Result.andThen_ok, sizeOf, typeInfo, run_program, hq, hs, Sem.run_pure, Nat.mul_one]
    rw [Std.Legacy.Range.forIn_eq_forIn_range']
    have hl : List.range' ([0:n] : Std.Legacy.Range).start ([0:n] : Std.Legacy.Range).size ([0:n] : Std.Legacy.Range).step = List.range n := by
      simp [Std.Legacy.Range.size, List.range_eq_range']
    rw [hl]
    have hmem : ∀ i ∈ List.range n, i < n := fun i hi => List.mem_range.1 hi
    generalize List.range n = l at hmem ⊢
    induction l with
    | nil => simp
    | cons i l ih =>
      have hp : (part e cs i).run P w = .ok (.int kk (xs i)) w := by
        simp [part, isAgg, run_underlying hu, hc i (hmem i (by simp))]
      have hp2 : (part e ds i).run P w = .ok (.int kk (ys i)) w := by
        simp [part, isAgg, run_underlying hu, hd i (hmem i (by simp))]
      have ih' := ih fun j hj => hmem j (by simp [hj])
      simp only [List.forIn_cons, Sem.run_bind, hp, hp2, Result.andThen_ok, run_equalIn_int w d e kk kk (xs i) (ys i) hu]
      by_cases hxy : xs i = ys i
      · simp only [hxy, List.all_cons, BEq.rfl, Bool.true_and, Bool.not_true, Bool.false_eq_true, if_false, Sem.run_pure, Result.andThen_ok]
        exact ih'
      · have hne : (xs i == ys i) = false := by simpa using hxy
        simp [hne, hxy]
theorem quiet_row {P : Program} {o : Oper} {a : Act} {w : World} {C : World → Prop} (ty : TypeId) (x : Operand) (ho : o.op = .load ty x)
    (b off : Nat) (hx : a.eval x = .pointer (some ⟨b, off, none⟩)) (cs : List Value) (d : TypeDesc) (hg : w.rangeAt b off cs)
    (hu : P.underlying ty = some d) (hd : d.isRow = true) (hi : (P.info? ty).map (·.size) = some cs.length) : o.quietAt P a C w (.agg cs.toArray) := by
  unfold Oper.quietAt execOp
  simp only [ho, hx, Sem.run_bind, run_loadAt_mid w b off ty cs d hg hu hd hi, Result.andThen_ok]
  exact ⟨rfl, rfl⟩
theorem range_stay {w w' : World} {b o : Nat} {cs : List Value} (h : w.rangeAt b o cs) (hb : Below w.heap.size w w') : w'.rangeAt b o cs := fun j v hv => by
  have := h j v hv
  rw [← this]
  refine hb.cell ?_
  unfold World.cell? at this
  rcases Nat.lt_or_ge b w.heap.size with hl | hl
  · exact hl
  · simp [Array.getElem?_eq_none hl] at this
end Go.Proofs.U
namespace Go.Proofs.YtmnanbcinfdbaaaDoor
open Go.RowKit Go.Proofs.U
set_option linter.unusedVariables false
theorem dig_eq2 (L M : List UInt8) (w : World) : (Op.equalIn 10000 25 (.agg ((Sh.dig L).map bv).toArray) (.agg ((Sh.dig M).map bv).toArray)).run Tryd.prog w = .ok (Sh.dig L == Sh.dig M) w := by
  have hl := Sh.dig_len L
  have hm := Sh.dig_len M
  rw [run_eq_arr2 w 9998 _ 5 32 .u8 _ _ (fun i => ((Sh.dig L).getD i 0).toNat) (fun i => ((Sh.dig M).getD i 0).toNat) Tryd.underlying25 Tryd.underlying5 (by kernel_rfl) (fun i hi => by simp [bv, hl, hi]) (fun i hi => by simp [bv, hm, hi])]
  congr 1
  rw [Bool.eq_iff_iff]
  simp only [List.all_eq_true, List.mem_range, beq_iff_eq]
  constructor
  · intro h
    refine List.ext_getElem (by omega) fun i h1 h2 => ?_
    have := h i (by omega)
    simp only [List.getD_eq_getElem?_getD, List.getElem?_eq_getElem h1, List.getElem?_eq_getElem h2, Option.getD_some] at this
    exact UInt8.toNat_inj.1 (by exact_mod_cast this)
  · intro h i hi
    rw [h]
/-- the first of a group that has the bytes -/
def fnd (base : List UInt8) (s : Nat) (bs : List UInt8) (zs : List Int) : Option Int := zs.find? fun z => blkB base s z.toNat == bs
def FindR (w : World) (R : Option Int) (e : Ending) (w' : World) : Prop := e = .returned (.tuple #[.int .i64 (R.getD 0), .bool R.isSome]) ∧ Below w.heap.size w w'
theorem blk_len (base : List UInt8) (s k : Nat) (h : k < base.length / s) : (blkB base s k).length = s := by
  have h1 : (k + 1) * s ≤ base.length / s * s := Nat.mul_le_mul_right s (by omega)
  have h2 : base.length / s * s ≤ base.length := Nat.div_mul_le_self _ s
  rw [Nat.succ_mul] at h1
  unfold blkB
  rw [List.length_take, List.length_drop]
  omega
theorem grp_mem (base : List UInt8) (s : Nat) (x z : Int) : ∀ k, z ∈ grp base s x k → ∃ i : Nat, z = (i : Int) ∧ i < k ∧ wk base s i = x
  | 0, h => by cases h
  | k + 1, h => by
    unfold grp at h
    split at h
    · rename_i hw
      rcases List.mem_append.1 h with h | h
      · obtain ⟨i, h1, h2, h3⟩ := grp_mem base s x z k h
        exact ⟨i, h1, by omega, h3⟩
      · simp at h
        exact ⟨k, h, by omega, hw⟩
    · obtain ⟨i, h1, h2, h3⟩ := grp_mem base s x z k h
      exact ⟨i, h1, by omega, h3⟩
theorem fnd_at {base : List UInt8} {s : Nat} {bs : List UInt8} : ∀ {zs : List Int} {j : Nat} {v : Int}, (∀ z ∈ zs.take j, (blkB base s z.toNat == bs) = false) → zs[j]? = some v → (blkB base s v.toNat == bs) = true → fnd base s bs zs = some v
  | [], j, v, _, h, _ => by simp at h
  | z :: zs, 0, v, _, h, hv => by
    simp at h
    subst h
    unfold fnd
    simp only [List.find?_cons, hv]
  | z :: zs, j + 1, v, hno, h, hv => by
    unfold fnd
    have hz := hno z (by simp)
    simp only [List.find?_cons, hz]
    exact fnd_at (j := j) (fun y hy => hno y (by simp [hy])) (by simpa using h) hv
theorem Tt.look {w : World} {g mb B0 : Nat} {Ab : Option Addr} {nb cb : Nat} {base : List UInt8} {s : Nat} (h : Tt w g mb B0 Ab nb cb base s) (x : Int) (h0 : 0 ≤ x) (h1 : x < 4294967296) :
    ∃ Au cu, (Instr.lookup 93 (.map (some mb)) (.int .u32 x) false).run Tryd.prog w = .ok (.slice Au (grp base s x (nb / s)).length cu) w ∧ w.ownsInts B0 3 .i64 (.slice Au (grp base s x (nb / s)).length cu) (grp base s x (nb / s)) := by
  have hwf : (Lit.int .u32 x).wf = true := by
    have h1 : IntKind.u32.min = 0 := by decide
    have h2 : IntKind.u32.max = 4294967295 := by decide
    simp only [Lit.wf, Bool.and_eq_true, decide_eq_true_eq, h1, h2]
    omega
  have hn := h.hn
  have hd : nb / s ≤ nb := Nat.div_le_self _ _
  obtain ⟨u, zs, hrun, hat, hoi, hzl, -⟩ := h.tab.grp.at (t := 93) (key := .int .u32 x) (kl := .int .u32 x) (Go.Maps.int_keyed Tryd.underlying34) Tryd.underlying93 ((Go.zero_of_info zeroInts).1 w) (by simp only [maxLen]; omega) (Go.Maps.keyOf_int_mk Tryd.underlying34 hwf)
  have hz := grp_of hoi hat
  subst hz
  obtain ⟨Au, cu, rfl⟩ := own_slice hoi.1
  exact ⟨Au, cu, hrun, hoi⟩
section
variable (g mb B0 : Nat) (Ab : Option Addr) (nb cb : Nat) (base : List UInt8) (s : Nat) (w : World)
set_option maxRecDepth 100000 in
set_option maxHeartbeats 4000000 in
theorem find_any (h : Tt w g mb B0 Ab nb cb base s) (hT : Tabs w) (x : Int) (x0 : 0 ≤ x) (x1 : x < 4294967296) (A : Option Addr) (n c : Nat) (bs : List UInt8) (hbs : BS w w.heap.size A n bs) (hc : n ≤ c) (hn : n ≤ 549755813888) :
    Calls Tryd.prog 32 #[.pointer (some ⟨g, 0, none⟩), .int .u32 x, .slice A n c] w (FindR w (fnd base s bs (grp base s x (nb / s)))) := by
  obtain ⟨Au, cu, hrun, hoi⟩ := h.look x x0 x1
  have hbl := hbs.1
  have hBl := h.bs.1
  obtain ⟨zs, hzs⟩ : ∃ zs, zs = grp base s x (nb / s) := ⟨_, rfl⟩
  have hmem : ∀ z ∈ zs, ∃ i : Nat, z = (i : Int) ∧ i < nb / s := fun z hz => by
    rw [hzs] at hz
    obtain ⟨i, h1, h2, _⟩ := grp_mem base s x z _ hz
    exact ⟨i, h1, h2⟩
  have HL := Lib.hid hzs
  rw [← hzs] at hrun hoi ⊢
  clear hzs
  obtain ⟨gl, hx, hx'⟩ : ∃ Al, ∃ cl, Blk w g 96 #[.slice Ab nb cb, .int .i64 (s : Int), .slice Al (nb / s) cl, .map (some mb)] := by
    obtain ⟨Al, cl, hx, _⟩ := h.tab.row
    exact ⟨Al, cl, hx⟩
  have c1 : w.cell? ⟨g, 1, none⟩ = some (.int .i64 (s : Int)) := Blk.cell hx' 1
  have c3 : w.cell? ⟨g, 3, none⟩ = some (.map (some mb)) := Blk.cell hx' 3
  obtain ⟨ln, hln⟩ : ∃ ln, ln = zs.length := ⟨_, rfl⟩
  rw [← hln] at hrun hoi
  rcases Nat.eq_zero_or_pos ln with h0 | hpos
  · have hR : fnd base s bs zs = none := by
      have : zs = [] := List.eq_nil_of_length_eq_zero (by omega)
      rw [this]; rfl
    rw [hR]
    subst h0
    clear hx' hln hR hBl hbl
    go_enter Tryd.func32, Tryd.ntmps32
    go_wp2_with fail
    refine bodyPost_ret (results_tmp2 rfl _ _ _) rfl ⟨rfl, Below.refl _ _⟩
  · have t1 : decide ((ln : Int) = 0) = false := by simp; omega
    have t1' : (((ln : Nat) : Int) == 0) = false := by simp; omega
    by_cases hns : n = s
    · subst hns
      obtain ⟨hz, hs⟩ := Go.zero_of_info zeroD
      obtain ⟨z, hzz⟩ : ∃ z, z = ((List.replicate 32 (0 : UInt8)).map bv).toArray := ⟨_, rfl⟩
      rw [← hzz] at hz
      have hzs : z.size = 32 := by rw [hzz]; rfl
      obtain ⟨DD, hDD⟩ : ∃ DD : List Value, DD = (Sh.dig bs).map bv := ⟨_, rfl⟩
      have hsum : Calls Tryd.prog 17 #[.slice A n c] w (fun e w' => e = .returned (.agg DD.toArray) ∧ Below w.heap.size w w') := by rw [hDD]; exact sumP_any A n c bs w hbs hc hn hT
      have hDl : DD.length = 32 := by rw [hDD]; simp [Sh.dig_len]
      have hDa : DD.toArray.all (·.oneCell') = true := by rw [hDD]; exact dig_all _
      have HD := Lib.hid (And.intro hDD (And.intro hDl (And.intro hDa (And.intro hs hzs))))
      have HZ := Lib.hid (And.intro trivial (And.intro hln (And.intro hbl hBl)))
      clear hzz hs hzs hDD hDl hDa hln hbl hBl
      have hnn : n ≤ 64 := h.hi
      go_enter Tryd.func32, Tryd.ntmps32
      go_wp2_with fail
      refine hsum.mono ?_
      rintro e w1 ⟨rfl, hb1⟩
      have hb1' : Below w.heap.size w (w1.alloc (.cells z 25)) := hb1.alloc hb1.size _
      go_wp2_with (refine wpList_store_blk (w := w1.alloc (.cells z 25)) rfl 25 (.tmp 8) (.tmp 33) rfl w1.heap.size DD.toArray rfl rfl 25 z (Blk.new w1 _ _) (by have h9 : DD.toArray.size = 32 := HD.out.2.1; rw [h9]; exact HD.out.2.2.2.1) (by have h9 : DD.toArray.size = 32 := HD.out.2.1; rw [h9]; exact HD.out.2.2.2.2) HD.out.2.2.1 ?_
                   intro w2 hb2 hg2
                   have hbw2 : Below w.heap.size w w2 := hb1'.grown hg2 hb1'.size (fun q hq => by injection hq with hq; have := hb1.size; omega)
                   have h2 := h.stay hbw2
                   obtain ⟨Au2, cu2, hrun2, hoi2⟩ := h2.look x x0 x1
                   rw [← HL.out] at hrun2 hoi2
                   rw [← HZ.out.2.1] at hrun2 hoi2
                   obtain ⟨gI, cap, hv, _, _⟩ := World.ownsRow.form hoi2.1 (by rw [← HZ.out.2.1]; exact hpos)
                   injection hv with hA
                   subst hA
                   have c12 := (hbw2.cell (Blk.lt hx')).trans c1
                   have c32 := (hbw2.cell (Blk.lt hx')).trans c3)
      have hgI : gI < w2.heap.size := by assumption
      have hlnb : ln ≤ 4096 := by
        rw [HZ.out.2.1, HL.out]
        exact Nat.le_trans (grp_len _ _ _ _) (Nat.le_trans (Nat.div_le_self _ _) h.hn)
      have hd1l : w1.heap.size < w2.heap.size := hb2.lt
      have hD2 : w2.rangeAt w1.heap.size 0 DD := fun q v hv => by rw [Nat.zero_add, hb2.cell q]; simpa using hv
      have hoi3 := hoi2.1
      rw [← HZ.out.2.1] at hoi3
      have hcI : ∀ (j : Nat) (v : Int), zs[j]? = some v → w2.cell? ⟨gI, j, none⟩ = some (.int .i64 v) := fun j v hv => by
        have hj : j < ln := by rw [HZ.out.2.1]; exact (List.getElem?_eq_some_iff.1 hv).1
        rw [World.ownsRow.cellAt hoi3 j (by omega)]; simp [hv]
      clear hoi hoi2 hoi3 hrun hrun2 hg2 hb1 hb1' hb2 c1 c3 c12 c32 hx' hz hsum t1 t1'
      generalize w1.heap.size = dB at hD2 hd1l ⊢
      have hw2 := hbw2.size
      go_loopg [41] ln (fun r i wr => ∃ j : Nat, r + j = ln ∧ i = .int .i64 (j : Int) ∧ Below w2.heap.size w2 wr ∧ ∀ z ∈ zs.take j, (blkB base n z.toNat == bs) = false)
      case atStart => exact ⟨0, by omega, rfl, Below.refl _ _, by simp⟩
      case round =>
        obtain ⟨j, hgj, rfl, hbr, hno⟩ := hrel
        have HGJ := Lib.hid hgj
        obtain ⟨wo, rfl⟩ : ∃ wo : World, wo = wr := ⟨_, rfl⟩
        by_cases hj : j < ln
        · clear hgj
          obtain ⟨zz, hzz⟩ : ∃ v, zs[j]? = some v := ⟨_, List.getElem?_eq_getElem (by rw [← HZ.out.2.1]; exact hj)⟩
          obtain ⟨k, rfl, hk⟩ := hmem zz (List.mem_of_getElem? hzz)
          have cI := (hbr.cell (p := ⟨gI, j, none⟩) hgI).trans (hcI j _ hzz)
          have h3 := h2.stay hbr
          obtain ⟨gA, cl, hx3, hr3⟩ := h3.place hk
          have c2 : wo.cell? ⟨g, 2, none⟩ = some (.slice (some ⟨gA, 0, none⟩) (nb / n) cl) := Blk.cell hx3 2
          have hr4 : wo.rangeAt gA (k * 33 + 1) ((Sh.dig (blkB base n k)).map bv) := fun q v hv => by
            have := hr3 (q + 1) v (by simpa [bval] using hv)
            rw [show k * 33 + (q + 1) = k * 33 + 1 + q by omega] at this
            exact this
          have hD4 := range_stay hD2 hbr
          have hEl : ((Sh.dig (blkB base n k)).map bv).length = 32 := by simp [Sh.dig_len]
          have hq : ∀ w', (Op.equalIn 10000 25 (.agg ((Sh.dig (blkB base n k)).map bv).toArray) (.agg DD.toArray)).run Tryd.prog w' = .ok (Sh.dig (blkB base n k) == Sh.dig bs) w' := fun w' => by rw [HD.out.1]; exact dig_eq2 _ _ w'
          have hsz3 := hbr.size
          have hbs3 := hbs.below hbw2
          have hbs4 : BS wo w.heap.size A n bs := hbs3.below (hbr.mono hw2)
          have hHas : Has (nb / n) (k : Int) = true := by simp [Has]; omega
          have hIs : ∀ w', Below wo.heap.size wo w' → Calls Tryd.prog 40 #[.pointer (some ⟨g, 0, none⟩), .int .i64 (k : Int), .slice A n c] w' fun e w'' => e = .returned (.bool (blkB base n k == bs)) ∧ Below w'.heap.size w' w'' := fun w' hw' => by
            have := is_any g mb B0 Ab nb cb base n w' (h3.stay hw') (k : Int) A n c bs w.heap.size (hbs4.below (hw'.mono (by omega))) (by have := hw'.size; omega)
            rw [hHas, Bool.true_and] at this
            exact this
          have hcell : ∀ w', Below wo.heap.size wo w' → w'.cell? ⟨g, 2, none⟩ = some (.slice (some ⟨gA, 0, none⟩) (nb / n) cl) := fun w' hw' => (hw'.cell (Blk.lt hx3)).trans c2
          obtain ⟨EE, hEE⟩ : ∃ EE, EE = (Sh.dig (blkB base n k)).map bv := ⟨_, rfl⟩
          rw [← hEE] at hq hr4 hEl
          have HE := Lib.hid (And.intro hEl hr4)
          have HDD := Lib.hid hD4
          have HC := Lib.hid hcell
          have HI := Lib.hid hIs
          obtain ⟨m, hm⟩ : ∃ m, m = nb / n := ⟨_, rfl⟩
          have hkm : k < m := by rw [hm]; exact hk
          rw [← hm] at HC
          have HM := Lib.hid hm
          have t3 : decide ((j : Int) < (ln : Int)) = true := by simpa using hj
          have hbq : (blkB base n k == bs) = true → (Sh.dig (blkB base n k) == Sh.dig bs) = true := fun h => by rw [beq_iff_eq] at h ⊢; rw [h]
          have HN := Lib.hid (And.intro hno hzz)
          clear hno hzz hEl hr4 hD4 hcell hIs hm hEE hr3 hx3 h3 hbs3 hbs4 hHas c2 hk hcI
          obtain ⟨b1, hb1⟩ : ∃ b, b = (Sh.dig (blkB base n k) == Sh.dig bs) := ⟨_, rfl⟩
          obtain ⟨b2, hb2⟩ : ∃ b, b = (blkB base n k == bs) := ⟨_, rfl⟩
          rw [← hb1] at hq hbq
          rw [← hb2] at HI hbq
          have HB := Lib.hid hb2
          clear hb1 hb2
          have hcases : (b1 = false ∧ b2 = false) ∨ (b1 = true ∧ b2 = false) ∨ (b1 = true ∧ b2 = true) := by
            cases b1 <;> cases b2 <;> simp_all
          clear hbq
          go_wp2_with fail
          rcases hcases with ⟨rfl, rfl⟩ | ⟨rfl, rfl⟩ | ⟨rfl, rfl⟩
          all_goals
            refine wp_region_class (C := fun w' => Below wo.heap.size wo w') (by kernel_rfl) (by kernel_rfl) ((Below.refl _ _).drew) ?_
            repeat
              (first
                | go_big_quiet_skip
                | (go_big_quiet_want
                   apply Exists.intro
                   refine ⟨fun w' hw' => ?_, ?_⟩
                   · first
                       | (refine quiet_row 25 _ rfl gA (k * 33 + 1) rfl EE _ (range_stay HE.out.2 hw') Tryd.underlying25 rfl (by rw [HE.out.1]; exact HD.out.2.2.2.1))
                       | (refine quiet_row 25 _ rfl dB 0 rfl DD _ (range_stay HDD.out hw') Tryd.underlying25 rfl (by rw [HD.out.2.1]; exact HD.out.2.2.2.1))
                       | (have hc := HC.out w' hw'
                          go_simp
                          first
                            | done
                            | ((with_reducible refine (HI.out w' hw').mono ?_)
                               rintro e w1 ⟨rfl, hb1⟩
                               exact ⟨rfl, hw'.trans (hb1.mono hw'.size)⟩)
                            | rfl)
                   go_big_quiet_on
                   go_simp))
            refine wpQuiet_nil ?_
            intro w' hw'
          · go_wp2_with fail
            go_roundg (gk - 1)
            case measure => have := HGJ.out; omega
            case rel => exact ⟨j + 1, by have := HGJ.out; omega, by go_num, hbr.trans (hw'.mono hsz3), fun z hz => by
              rw [List.take_add_one, HN.out.2] at hz
              rcases List.mem_append.1 hz with hz | hz
              · exact HN.out.1 z hz
              · simp at hz; subst hz; exact HB.out.symm⟩
          · go_wp2_with fail
            go_roundg (gk - 1)
            case measure => have := HGJ.out; omega
            case rel => exact ⟨j + 1, by have := HGJ.out; omega, by go_num, hbr.trans (hw'.mono hsz3), fun z hz => by
              rw [List.take_add_one, HN.out.2] at hz
              rcases List.mem_append.1 hz with hz | hz
              · exact HN.out.1 z hz
              · simp at hz; subst hz; exact HB.out.symm⟩
          · go_wp2_with fail
            refine bodyPost_ret (results_tmp2 rfl _ _ _) rfl ⟨?_, hbw2.trans ((hbr.trans (hw'.mono hsz3)).mono hw2)⟩
            rw [fnd_at HN.out.1 HN.out.2 HB.out.symm]
            rfl
        · have hjl : j = ln := by omega
          have hR : fnd base n bs zs = none := by
            rw [hjl, HZ.out.2.1, List.take_length] at hno
            unfold fnd
            rw [List.find?_eq_none]
            intro z hz
            rw [hno z hz]
            simp
          have t3 : decide ((j : Int) < (ln : Int)) = false := by simpa using hj
          have HR := Lib.hid hR
          clear hjl hgj hno hR
          go_wp2_with fail
          refine bodyPost_ret (results_tmp2 rfl _ _ _) rfl ⟨?_, hbw2.trans (hbr.mono hw2)⟩
          rw [HR.out]
          rfl
    · have hR : fnd base s bs zs = none := by
        unfold fnd
        rw [List.find?_eq_none]
        intro z hz
        obtain ⟨i, rfl, hi⟩ := hmem z hz
        have := blk_len base s i (by rw [hBl]; exact hi)
        simp only [beq_iff_eq, Int.toNat_natCast]
        intro e
        rw [e] at this
        omega
      rw [hR]
      have t2 : decide ((n : Int) = (s : Int)) = false := by simp; omega
      have t2' : ((n : Int) == (s : Int)) = false := by simp; omega
      have t2'' : ((n : Int) != (s : Int)) = true := by simp; omega
      clear hx' hln hR hBl hbl
      go_enter Tryd.func32, Tryd.ntmps32
      go_wp2_with fail
      refine bodyPost_ret (results_tmp2 rfl _ _ _) rfl ⟨rfl, Below.refl _ _⟩
end
end Go.Proofs.YtmnanbcinfdbaaaDoor
end
