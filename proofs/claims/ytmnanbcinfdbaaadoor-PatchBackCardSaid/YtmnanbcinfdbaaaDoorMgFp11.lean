/- The walks of a patch's End and of the example of layer 20; conditions: none beyond their hypotheses. The walks of Apply; conditions: none beyond their hypotheses. The walk of a patch's Feed; conditions: none beyond their hypotheses. -/
import Derived.Test.YtmnanbcinfdbaaaDoorMgFp7
set_option linter.unusedSimpArgs false
set_option linter.unusedVariables false
section
namespace Go.Proofs.YtmnanbcinfdbaaaDoor
open Go.RowKit Go.Proofs.U
set_option linter.unusedVariables false
theorem below_only {B : Nat} {w0 w w' : World} {row : Option Nat} (h : Below B w0 w) (hB : B ≤ w.heap.size) (hg : w.grownBy w' row) (hr : ∀ k, row = some k → B ≤ k) : Below B w0 w' :=
  h.grown hg hB hr
def endP (f nh : Nat) : Nat := if f = 0 ∧ 0 < nh then 11 else f
set_option maxHeartbeats 400000 in
theorem end_any {w : World} {g : Nat} {Ab Ah : Option Addr} {nb cb nh ch : Nat} {o : Int} {f : Nat} (h : Blk w g 122 (ptC Ab nb cb Ah nh ch o f)) : Calls Tryd.prog 62 #[.pointer (some ⟨g, 0, none⟩)] w fun e w' => e = .returned (.int .i64 ((endP f nh : Nat) : Int)) ∧ Drawn w w' := by
  obtain ⟨E, hE⟩ : ∃ E, E = endP f nh := ⟨_, rfl⟩
  rw [← hE]
  have HE := Lib.hid hE
  clear hE
  by_cases hf : f = 0
  · subst hf
    by_cases hn : 0 < nh
    · have e1 : E = 11 := by rw [HE.out]; simp [endP, hn]
      subst e1
      go_enter Tryd.func62, Tryd.ntmps62
      go_wp2_with fail
      refine (fault_any h).mono ?_
      rintro e w1 ⟨rfl, hd1⟩
      go_wp2_with fail
      refine (held_any (show Blk w1 g 122 (ptC Ab nb cb Ah nh ch o ((0 : Nat) : Int)) from by obtain ⟨q, rfl⟩ := hd1; exact h.drewN q)).mono ?_
      rintro e w2 ⟨rfl, hd2⟩
      go_wp2_with fail
      go_ret
      exact ⟨rfl, hd1.trans hd2⟩
    · have e1 : E = 0 := by rw [HE.out]; simp [endP, hn]
      subst e1
      go_enter Tryd.func62, Tryd.ntmps62
      go_wp2_with fail
      refine (fault_any h).mono ?_
      rintro e w1 ⟨rfl, hd1⟩
      have h1 : Blk w1 g 122 (ptC Ab nb cb Ah nh ch o ((0 : Nat) : Int)) := by obtain ⟨q, rfl⟩ := hd1; exact h.drewN q
      go_wp2_with fail
      refine (held_any h1).mono ?_
      rintro e w2 ⟨rfl, hd2⟩
      have h2 : Blk w2 g 122 (ptC Ab nb cb Ah nh ch o ((0 : Nat) : Int)) := by obtain ⟨q, rfl⟩ := hd2; exact h1.drewN q
      go_wp2_with fail
      refine (fault_any h2).mono ?_
      rintro e w3 ⟨rfl, hd3⟩
      go_wp2_with fail
      go_ret
      exact ⟨rfl, (hd1.trans hd2).trans hd3⟩
  · have e1 : E = f := by rw [HE.out]; simp [endP, hf]
    subst e1
    have b1 : ((E : Int) == 0) = false := by rw [beq_eq_false_iff_ne]; omega
    go_enter Tryd.func62, Tryd.ntmps62
    go_wp2_with fail
    refine (fault_any h).mono ?_
    rintro e w1 ⟨rfl, hd1⟩
    have h1 : Blk w1 g 122 (ptC Ab nb cb Ah nh ch o (E : Int)) := by obtain ⟨q, rfl⟩ := hd1; exact h.drewN q
    go_wp2_with fail
    refine (fault_any h1).mono ?_
    rintro e w2 ⟨rfl, hd2⟩
    go_wp2_with fail
    go_ret
    exact ⟨rfl, hd1.trans hd2⟩
theorem PtS.below {w w' : World} {g : Nat} {Ab : Option Addr} {nb cb : Nat} {base hs : List UInt8} {o f : Nat} (h : PtS w g Ab nb cb base hs o f) (hb : Below w.heap.size w w') : PtS w' g Ab nb cb base hs o f := by
  obtain ⟨Ah, ch, h1, h2, h3, h4⟩ := h
  exact ⟨Ah, ch, h1.stay hb, h2.below (hb.mono (Nat.le_of_lt h1.lt)), h3.below hb, h4⟩
theorem ex20a : Gr.feedP 4 [97, 98, 99, 100] [] 0 0 [1, 1, 1, 1, 1] = ([], 0, [1, 1, 1, 1, 1], 0) := by decide +kernel
theorem ex20b : Gr.feedP 4 [97, 98, 99, 100] [1, 1, 1, 1, 1] 0 0 [2, 1, 2, 1, 1, 120] = ([98, 99, 120], 3, [], 0) := by decide +kernel
set_option maxRecDepth 100000 in
set_option maxHeartbeats 2000000 in
theorem lives20 (w : World) : Calls Tryd.prog 58 #[] w (Yes w) := by
  have kc := fun (w : World) (C : Array Value) (n c : Nat) => Lib.run_convert_bytes_const (P := Tryd.prog) w 22 5 C n c Tryd.underlying22 Tryd.underlying5
  go_enter Tryd.func58, Tryd.ntmps58
  go_wp2_with fail
  have hb1 : Below w.heap.size w (w.alloc (.cells #[.int .u8 97, .int .u8 98, .int .u8 99, .int .u8 100] 5 (4, 5))) := (Below.refl _ _).alloc (Nat.le_refl _) _
  have hd1 : BS (w.alloc (.cells #[.int .u8 97, .int .u8 98, .int .u8 99, .int .u8 100] 5 (4, 5))) (w.alloc (.cells #[.int .u8 97, .int .u8 98, .int .u8 99, .int .u8 100] 5 (4, 5))).heap.size (some ⟨w.heap.size, 0, none⟩) 4 [97, 98, 99, 100] := BS.fresh w 5 [97, 98, 99, 100] (4, 5)
  generalize (w.alloc (.cells #[.int .u8 97, .int .u8 98, .int .u8 99, .int .u8 100] 5 (4, 5))) = w1 at hb1 hd1 ⊢
  refine (new_any _ 4 4 w1 (by omega)).mono ?_
  rintro e w2 ⟨rfl, hw2⟩
  have hb2 : Below w1.heap.size w1 w2 := by rw [hw2]; exact (Below.refl _ _).alloc (Nat.le_refl _) _
  have hp2 : PtS w2 w1.heap.size (some ⟨w.heap.size, 0, none⟩) 4 4 [97, 98, 99, 100] [] 0 0 := by
    rw [hw2]
    exact ⟨none, 0, Blk.new _ _ _, hd1.below (hw2 ▸ hb2), Dat.nil _ _ _, Nat.le_refl _⟩
  have hz2 : w1.heap.size < w2.heap.size := by rw [hw2]; simp
  have hbw2 := hb1.trans (hb2.mono hb1.size)
  have hgw := hb1.size
  clear hw2 hd1 hb2 hb1
  generalize w1.heap.size = g at hp2 hz2 hgw ⊢
  generalize hAb : (some ⟨w.heap.size, 0, none⟩ : Option Addr) = Ab at hp2 ⊢
  clear hAb
  have HP2 := Lib.hid hp2
  clear hp2
  have hal : ∀ o, Below w2.heap.size w2 (w2.alloc o) := fun o => (Below.refl _ _).alloc (Nat.le_refl _) o
  have hda : BS (w2.alloc (.cells #[.int .u8 1, .int .u8 1, .int .u8 1, .int .u8 1, .int .u8 1] 5)) (w2.alloc (.cells #[.int .u8 1, .int .u8 1, .int .u8 1, .int .u8 1, .int .u8 1] 5)).heap.size (some ⟨w2.heap.size, 0, none⟩) 5 [1, 1, 1, 1, 1] := BS.fresh w2 5 [1, 1, 1, 1, 1] (0, 0)
  have HA := Lib.hid (And.intro hal hda)
  clear hal hda
  go_wp2_with fail
  refine (feed_ok g Ab 4 4 [97, 98, 99, 100] [] 0 _ 5 5 [1, 1, 1, 1, 1] _ (HP2.out.below (HA.out.1 _)) (by omega) (by omega) (by omega) HA.out.2 (by omega) (by simp)).mono ?_
  rw [show ((4 : Nat) : Int) = 4 from rfl, ex20a]
  rintro e w4 ⟨A4, c4, rfl, hown4, hp4, hg4⟩
  simp only [List.length_nil] at hown4 hp4 ⊢
  have hbw4 : Below w.heap.size w w4 := below_only (hbw2.trans ((HA.out.1 _).mono hbw2.size)) (by have := hbw2.size; have := (HA.out.1 (.cells #[.int .u8 1, .int .u8 1, .int .u8 1, .int .u8 1, .int .u8 1] 5)).size; omega) hg4 (fun k hk => by injection hk with hk; omega)
  have hal : ∀ o, Below w4.heap.size w4 (w4.alloc o) := fun o => (Below.refl _ _).alloc (Nat.le_refl _) o
  have hda : BS (w4.alloc (.cells #[.int .u8 2, .int .u8 1, .int .u8 2, .int .u8 1, .int .u8 1, .int .u8 120] 5)) (w4.alloc (.cells #[.int .u8 2, .int .u8 1, .int .u8 2, .int .u8 1, .int .u8 1, .int .u8 120] 5)).heap.size (some ⟨w4.heap.size, 0, none⟩) 6 [2, 1, 2, 1, 1, 120] := BS.fresh w4 5 [2, 1, 2, 1, 1, 120] (0, 0)
  have HB := Lib.hid (And.intro hal hda)
  have HP4 := Lib.hid hp4
  clear hal hda hp4 hown4
  go_wp2_with fail
  refine (feed_ok g Ab 4 4 [97, 98, 99, 100] [1, 1, 1, 1, 1] 0 _ 6 6 [2, 1, 2, 1, 1, 120] _ (HP4.out.below (HB.out.1 _)) (by omega) (by omega) (by omega) HB.out.2 (by omega) (by simp)).mono ?_
  rw [show ((4 : Nat) : Int) = 4 from rfl, ex20b]
  rintro e w6 ⟨A6, c6, rfl, hown6, hp6, hg6⟩
  simp only [List.length_cons, List.length_nil, Nat.zero_add] at hown6 hp6 ⊢
  have hbw6 : Below w.heap.size w w6 := below_only (hbw4.trans ((HB.out.1 _).mono hbw4.size)) (by have := hbw4.size; have := (HB.out.1 (.cells #[.int .u8 2, .int .u8 1, .int .u8 2, .int .u8 1, .int .u8 1, .int .u8 120] 5)).size; omega) hg6 (fun k hk => by injection hk with hk; omega)
  obtain ⟨Ah, ch, hk6, _, _, _⟩ := hp6
  have hcv := run_str (w := w6) (P := Tryd.prog) hown6.bs 22 5 9 Tryd.underlying22 Tryd.underlying5 Tryd.underlying9 c6
  unfold strOf at hcv
  have HK := Lib.hid hk6
  clear hk6 hown6
  go_wp2_with fail
  refine (end_any HK.out).mono ?_
  rintro e w7 ⟨rfl, hd7⟩
  have hk7 : Blk w7 g 122 (ptC Ab 4 4 Ah ([] : List UInt8).length ch ((3 : Nat) : Int) ((0 : Nat) : Int)) := by obtain ⟨q, rfl⟩ := hd7; exact HK.out.drewN q
  have HK7 := Lib.hid hk7
  clear hk7
  have hend : ((endP 0 0 : Nat) : Int) = 0 := by decide
  simp only [List.length_nil, hend]
  go_wp2_with fail
  refine (out_any HK7.out).mono ?_
  rintro e w8 ⟨rfl, hd8⟩
  go_wp2_with fail
  go_ret
  refine ⟨?_, hbw6.trans ((hd7.trans hd8).below _)⟩
  first | rfl | simp [strOf]
end Go.Proofs.YtmnanbcinfdbaaaDoor
end

section
namespace Go.Proofs.Gr
/-- what comes out by steps -/
def applyB (base : List UInt8) (l : List Stp) : List UInt8 := l.flatMap (doesP base)
def applyP (base : List UInt8) (l : List Stp) (n : Int) : List UInt8 × Nat := if checkP l n ≠ 0 then ([], checkP l n) else (applyB base l, 0)
theorem applyB_snoc (base : List UInt8) (l : List Stp) (k : Nat) (s : Stp) (h : l[k]? = some s) : applyB base (l.take (k + 1)) = applyB base (l.take k) ++ doesP base s := by
  unfold applyB
  rw [List.take_add_one, h]; simp
theorem applyB_len (base : List UInt8) (l : List Stp) (n : Int) (hn : n = base.length) (h4 : n ≤ 4096) (hok : l.all (okS n) = true) (k : Nat) : (applyB base (l.take k)).length ≤ 4096 * k := by
  induction k with
  | zero => simp [applyB]
  | succ k ih =>
    rcases hx : l[k]? with _ | s
    · have : l.take (k + 1) = l.take k := by rw [List.take_add_one, hx]; simp
      rw [this]; omega
    · rw [applyB_snoc base l k s hx, List.length_append]
      have hs := List.all_eq_true.1 hok s (List.mem_of_getElem? hx)
      have := does_len (base := base) hs hn h4
      have := okS_len hs h4
      omega
theorem checkP_ok {l : List Stp} {n : Int} (h : checkP l n = 0) : l.all (okS n) = true := by
  unfold checkP at h
  split at h
  · assumption
  · exact absurd h (by decide)
end Go.Proofs.Gr
namespace Go.Proofs.YtmnanbcinfdbaaaDoor
open Go.RowKit Go.Proofs.U
set_option linter.unusedVariables false
def ApplyRet (w : World) (r : List UInt8 × Nat) (e : Ending) (w' : World) : Prop :=
  ∃ A c, e = .returned (.tuple #[.slice A r.1.length c, .int .i64 ((r.2 : Nat) : Int)]) ∧ BS w' w'.heap.size A r.1.length r.1 ∧ Below w.heap.size w w'
set_option maxRecDepth 100000 in
set_option maxHeartbeats 4000000 in
theorem apply_any (Ab A : Option Addr) (nb cb n c : Nat) (base : List UInt8) (l : List Gr.Stp) (w : World) (hb : BS w w.heap.size Ab nb base) (hcb : nb ≤ cb) (hnb : nb ≤ 4096) (h : SP w A n l) (hr : ∀ x ∈ l, Rng x) (hn : n ≤ 5000) (hd : dsum l ≤ 20000) :
    Calls Tryd.prog 61 #[.slice Ab nb cb, .slice A n c] w (ApplyRet w (Gr.applyP base l nb)) := by
  obtain ⟨hzS, _⟩ := Go.zero_of_info zeroS
  have hll := h.1
  have hbl := hb.1
  obtain ⟨R, hR⟩ : ∃ R, R = Gr.applyP base l nb := ⟨_, rfl⟩
  rw [← hR]
  obtain ⟨E, hE⟩ : ∃ E, E = Gr.checkP l nb := ⟨_, rfl⟩
  have HL := Lib.hid (And.intro hll (And.intro hbl (And.intro hR (And.intro hE (And.intro hb h)))))
  clear hll hbl hR hE hb h
  go_enter Tryd.func61, Tryd.ntmps61
  go_wp2_with fail
  refine (dcheck_any A n c l nb w HL.out.2.2.2.2.2 hr hn hd ⟨by omega, by omega⟩).mono ?_
  rintro e w1 ⟨rfl, hb1⟩
  rw [← HL.out.2.2.2.1]
  by_cases hE0 : E = 0
  · have hall : l.all (Gr.okS nb) = true := Gr.checkP_ok (by rw [← HL.out.2.2.2.1]; exact hE0)
    have hR2 : R = (Gr.applyB base l, 0) := by
      rw [HL.out.2.2.1]; unfold Gr.applyP
      rw [if_neg (by rw [← HL.out.2.2.2.1]; simp [hE0])]
    subst hE0
    have hB1 := (HL.out.2.2.2.2.1.below hb1)
    have hs1 := HL.out.2.2.2.2.2.below hb1
    have HB := Lib.hid (And.intro hall (And.intro hR2 (And.intro hB1 hs1)))
    clear hall hR2 hB1 hs1
    go_wp2_with fail
    go_loopg [4, 18] n (fun r o i wr => ∃ (k : Nat) (Ao : Option Addr) (co L : Nat), r + k = n ∧ i = .int .i64 k ∧ o = .slice Ao L co ∧ L = (Gr.applyB base (l.take k)).length ∧ Own wr w1.heap.size 5 Ao L co (Gr.applyB base (l.take k)) ∧ Below w1.heap.size w1 wr)
    case atStart => exact ⟨0, none, 0, 0, rfl, rfl, rfl, rfl, Own.nil _ _ _, Below.refl _ _⟩
    case round =>
      obtain ⟨k, Ao, co, L, hgk, rfl, rfl, hL, hown, hbw⟩ := hrel
      have HGK := Lib.hid hgk
      obtain ⟨wo, rfl⟩ : ∃ wo : World, wo = wr := ⟨_, rfl⟩
      have hLl : L ≤ 4096 * k := by rw [hL]; exact Gr.applyB_len base l nb (by have := HL.out.2.1; omega) (by omega) HB.out.1 k
      by_cases hlt : k < n
      · clear hgk
        have h6 := HB.out.2.2.2.below hbw
        obtain ⟨b, off, x, A', c', rfl, hbl, hx, s0, s1, s2, s3, hcd, hbs⟩ := h6.at_ hlt
        have htk := Gr.applyB_snoc base l k x hx
        have hok := List.all_eq_true.1 HB.out.1 x (List.mem_of_getElem? hx)
        have hbase := (HB.out.2.2.1.more (Nat.le_of_eq rfl)).below (hbw.mono hb1.size)
        have hdl := Gr.does_len (base := base) (n := nb) hok (by have := HL.out.2.1; omega) (by omega)
        have hsl := Gr.okS_len hok (by omega)
        have hb2 : Below wo.heap.size wo (wo.alloc (.cells #[.int .i64 x.k, .int .i64 x.f, .int .i64 x.l, .slice A' x.d.length c'] 68)) := (Below.refl _ _).alloc (Nat.le_refl _) _
        have hdo := does_any Ab A' nb cb c' x base _ ((hbase.more (Nat.le_trans hb1.size hbw.size)).below hb2 |>.more hb2.size) ((hbs.below hb2).more hb2.size) hok hcb hnb
        obtain ⟨X, hX⟩ : ∃ X, X = Gr.doesP base x := ⟨_, rfl⟩
        rw [← hX] at hdl htk hdo
        have hq : L + X.length ≤ 140737488355328 := by omega
        obtain ⟨xk, xf, xl, xd⟩ := x
        simp only at s0 s1 s2 s3 hcd hbs hdl hsl hdo hb2
        have HT := Lib.hid (And.intro htk (And.intro hdo (And.intro hb2 hL)))
        clear htk hx hbs hdo hb2 hL h6 hok hbase hX hdl
        go_wp2_with fail
        refine HT.out.2.1.mono ?_
        rintro e w3 ⟨D, c8, rfl, hbs8, hb8⟩
        have hown3 := (hown.below HT.out.2.2.1).below hb8
        have hbw3 : Below w1.heap.size w1 w3 := hbw.trans ((HT.out.2.2.1.trans (hb8.mono HT.out.2.2.1.size)).mono hbw.size)
        clear hb8
        go_wp2_with (at_builtin; refine wpList_app bt rfl _ _ rfl w1.heap.size Ao L co _ rfl hown3 _ D X.length c8 X rfl hbs8 hq hbw3.size ?_; intro A5 c5 w5 hown5 hg5 hat5)
        have hbw5 := below_of_grown hbw3 hbw3.size hown3 (Nat.le_refl _) hg5
        clear hown3 hbs8 hbw3 hg5
        go_roundg (gk - 1)
        case measure => have := HGK.out; omega
        case rel => exact ⟨k + 1, A5, c5, L + X.length, by have := HGK.out; omega, by go_num, rfl, by rw [HT.out.1, List.length_append, ← HT.out.2.2.2], by rw [HT.out.1]; exact hown5, hbw5⟩
      · obtain rfl : k = n := by omega
        rw [List.take_of_length_le (by rw [HL.out.1]; omega)] at hown hL
        have HO := Lib.hid (And.intro hown hL)
        clear hown hL
        go_wp2_with fail
        go_ret2
        have hR2 := HB.out.2.1
        obtain ⟨hown, rfl⟩ := HO.out
        subst hR2
        exact ⟨Ao, co, rfl, hown.bs, hb1.trans (hbw.mono hb1.size)⟩
  · have b1 : ((E : Int) != 0) = true := by rw [bne_iff_ne]; omega
    have hR2 : R = ([], E) := by
      rw [HL.out.2.2.1]; unfold Gr.applyP
      rw [if_pos (by rw [← HL.out.2.2.2.1]; exact hE0), ← HL.out.2.2.2.1]
    subst hR2
    go_wp2_with fail
    go_ret2
    exact ⟨none, 0, rfl, BS.nil _ _ _, hb1⟩
end Go.Proofs.YtmnanbcinfdbaaaDoor
end

section
namespace Go.Proofs.YtmnanbcinfdbaaaDoor
open Go.RowKit Go.Proofs.U
set_option linter.unusedVariables false
set_option maxRecDepth 100000 in
set_option maxHeartbeats 1000000 in
theorem feed_bad (g : Nat) (Ab : Option Addr) (nb cb : Nat) (base hs : List UInt8) (o f : Nat) (hf : f ≠ 0) (A : Option Addr) (n c : Nat) (b : List UInt8) (w : World) (hp : PtS w g Ab nb cb base hs o f) :
    Calls Tryd.prog 60 #[.pointer (some ⟨g, 0, none⟩), .slice A n c] w (FeedRet w g Ab nb cb base (Gr.feedP nb base hs o f b)) := by
  have hR : Gr.feedP nb base hs o f b = ([], o, hs, f) := by unfold Gr.feedP; rw [if_pos hf]
  rw [hR]
  obtain ⟨Ah, ch, hk, hbase, hheld, hch⟩ := hp
  have b1 : ((f : Int) != 0) = true := by rw [bne_iff_ne]; omega
  have HB := Lib.hid (And.intro hbase (And.intro hheld (And.intro hch hk)))
  clear hR hbase hheld hch hk
  go_enter_defers Tryd.func60, Tryd.ntmps60
  go_wp2_with fail
  go_step3
  go_wp2_with fail
  refine (fault_any HB.out.2.2.2).mono ?_
  rintro e w1 ⟨rfl, ⟨q1, rfl⟩⟩
  go_wp2_with fail
  refine (fault_any (HB.out.2.2.2.drewN q1)).mono ?_
  rintro e w1 ⟨rfl, ⟨q2, rfl⟩⟩
  go_wp2_with fail
  rw [Exit.noGoto_ret]
  have hpp : PtS w g Ab nb cb base hs o f := ⟨Ah, ch, HB.out.2.2.2, HB.out.1, HB.out.2.1, HB.out.2.2.1⟩
  exact ⟨_, results_tmp2 rfl _ _ _, none, 0, rfl, Own.nil _ _ _, hpp.below (below_drewN (Below.refl _ _) (q1 + q2)), only_drewN (World.grownBy.refl _ _) (q1 + q2)⟩
theorem feed_any (g : Nat) (Ab : Option Addr) (nb cb : Nat) (base hs : List UInt8) (o f : Nat) (A : Option Addr) (n c : Nat) (b : List UInt8) (w : World)
    (hp : PtS w g Ab nb cb base hs o f) (hcb : nb ≤ cb) (hnb : nb ≤ 4096) (ho : o ≤ 4096) (hb : BS w w.heap.size A n b) (hn : n ≤ 1000000) (hhs : hs.length ≤ 1000000) :
    Calls Tryd.prog 60 #[.pointer (some ⟨g, 0, none⟩), .slice A n c] w (FeedRet w g Ab nb cb base (Gr.feedP nb base hs o f b)) := by
  by_cases hf : f = 0
  · subst hf; exact feed_ok g Ab nb cb base hs o A n c b w hp hcb hnb ho hb hn hhs
  · exact feed_bad g Ab nb cb base hs o f hf A n c b w hp
end Go.Proofs.YtmnanbcinfdbaaaDoor
end
