/- The walks of Apply, both, and of PatchApplies; conditions: none beyond their hypotheses. -/
import Derived.Test.YtmnanbcinfdbaaaPt11
import Derived.Test.YtmnanbcinfdbaaaLaw19b
namespace Go.Proofs.Gr
/-- what comes out by steps -/
def applyB (base : List UInt8) (l : List Stp) : List UInt8 := l.flatMap (doesP base)
def applyP (base : List UInt8) (l : List Stp) (n : Int) : List UInt8 × Nat := if checkP l n ≠ 0 then ([], checkP l n) else (applyB base l, 0)
theorem applyB_snoc (base : List UInt8) (l : List Stp) (k : Nat) (s : Stp) (h : l[k]? = some s) : applyB base (l.take (k + 1)) = applyB base (l.take k) ++ doesP base s := by
  unfold applyB
  rw [List.take_add_one, h]; simp
theorem applyB_len (base : List UInt8) (l : List Stp) (n : Int) (hn : n = base.length) (h4 : n ≤ 4096) (hok : l.all (okS n) = true) (k : Nat) : (applyB base (l.take k)).length ≤ 4096 * k := by
  induction k with
  | zero => simp [applyB]
  | succ k ih =>
    rcases hx : l[k]? with _ | s
    · have : l.take (k + 1) = l.take k := by rw [List.take_add_one, hx]; simp
      rw [this]; omega
    · rw [applyB_snoc base l k s hx, List.length_append]
      have hs := List.all_eq_true.1 hok s (List.mem_of_getElem? hx)
      have := does_len (base := base) hs hn h4
      have := okS_len hs h4
      omega
theorem checkP_ok {l : List Stp} {n : Int} (h : checkP l n = 0) : l.all (okS n) = true := by
  unfold checkP at h
  split at h
  · assumption
  · exact absurd h (by decide)
end Go.Proofs.Gr
namespace Go.Proofs.Ytmnanbcinfdbaaa
open Go.RowKit Go.Proofs.U
set_option linter.unusedVariables false
def ApplyRet (w : World) (r : List UInt8 × Nat) (e : Ending) (w' : World) : Prop :=
  ∃ A c, e = .returned (.tuple #[.slice A r.1.length c, .int .i64 ((r.2 : Nat) : Int)]) ∧ BS w' w'.heap.size A r.1.length r.1 ∧ Below w.heap.size w w'
set_option maxRecDepth 100000 in
set_option maxHeartbeats 4000000 in
theorem apply_any (Ab A : Option Addr) (nb cb n c : Nat) (base : List UInt8) (l : List Gr.Stp) (w : World) (hb : BS w w.heap.size Ab nb base) (hcb : nb ≤ cb) (hnb : nb ≤ 4096) (h : SP w A n l) (hr : ∀ x ∈ l, Rng x) (hn : n ≤ 300) (hd : dsum l ≤ 20000) :
    Calls Try.prog 29 #[.slice Ab nb cb, .slice A n c] w (ApplyRet w (Gr.applyP base l nb)) := by
  obtain ⟨hzS, _⟩ := Go.zero_of_info zeroS
  have hll := h.1
  have hbl := hb.1
  obtain ⟨R, hR⟩ : ∃ R, R = Gr.applyP base l nb := ⟨_, rfl⟩
  rw [← hR]
  obtain ⟨E, hE⟩ : ∃ E, E = Gr.checkP l nb := ⟨_, rfl⟩
  have HL := Lib.hid (And.intro hll (And.intro hbl (And.intro hR (And.intro hE (And.intro hb h)))))
  clear hll hbl hR hE hb h
  go_enter Try.func29, Try.ntmps29
  go_wp2_with fail
  refine (dcheck_any A n c l nb w HL.out.2.2.2.2.2 hr hn hd ⟨by omega, by omega⟩).mono ?_
  rintro e w1 ⟨rfl, hb1⟩
  rw [← HL.out.2.2.2.1]
  by_cases hE0 : E = 0
  · have hall : l.all (Gr.okS nb) = true := Gr.checkP_ok (by rw [← HL.out.2.2.2.1]; exact hE0)
    have hR2 : R = (Gr.applyB base l, 0) := by
      rw [HL.out.2.2.1]; unfold Gr.applyP
      rw [if_neg (by rw [← HL.out.2.2.2.1]; simp [hE0])]
    subst hE0
    have hB1 := (HL.out.2.2.2.2.1.below hb1)
    have hs1 := HL.out.2.2.2.2.2.below hb1
    have HB := Lib.hid (And.intro hall (And.intro hR2 (And.intro hB1 hs1)))
    clear hall hR2 hB1 hs1
    go_wp2_with fail
    go_loopg [4, 18] n (fun r o i wr => ∃ (k : Nat) (Ao : Option Addr) (co L : Nat), r + k = n ∧ i = .int .i64 k ∧ o = .slice Ao L co ∧ L = (Gr.applyB base (l.take k)).length ∧ Own wr w1.heap.size 5 Ao L co (Gr.applyB base (l.take k)) ∧ Below w1.heap.size w1 wr)
    case atStart => exact ⟨0, none, 0, 0, rfl, rfl, rfl, rfl, Own.nil _ _ _, Below.refl _ _⟩
    case round =>
      obtain ⟨k, Ao, co, L, hgk, rfl, rfl, hL, hown, hbw⟩ := hrel
      have HGK := Lib.hid hgk
      obtain ⟨wo, rfl⟩ : ∃ wo : World, wo = wr := ⟨_, rfl⟩
      have hLl : L ≤ 4096 * k := by rw [hL]; exact Gr.applyB_len base l nb (by have := HL.out.2.1; omega) (by omega) HB.out.1 k
      by_cases hlt : k < n
      · clear hgk
        have h6 := HB.out.2.2.2.below hbw
        obtain ⟨b, off, x, A', c', rfl, hbl, hx, s0, s1, s2, s3, hcd, hbs⟩ := h6.at_ hlt
        have htk := Gr.applyB_snoc base l k x hx
        have hok := List.all_eq_true.1 HB.out.1 x (List.mem_of_getElem? hx)
        have hbase := (HB.out.2.2.1.more (Nat.le_of_eq rfl)).below (hbw.mono hb1.size)
        have hdl := Gr.does_len (base := base) (n := nb) hok (by have := HL.out.2.1; omega) (by omega)
        have hsl := Gr.okS_len hok (by omega)
        have hb2 : Below wo.heap.size wo (wo.alloc (.cells #[.int .i64 x.k, .int .i64 x.f, .int .i64 x.l, .slice A' x.d.length c'] 25)) := (Below.refl _ _).alloc (Nat.le_refl _) _
        have hdo := does_any Ab A' nb cb c' x base _ ((hbase.more (Nat.le_trans hb1.size hbw.size)).below hb2 |>.more hb2.size) ((hbs.below hb2).more hb2.size) hok hcb hnb
        obtain ⟨X, hX⟩ : ∃ X, X = Gr.doesP base x := ⟨_, rfl⟩
        rw [← hX] at hdl htk hdo
        have hq : L + X.length ≤ 140737488355328 := by omega
        obtain ⟨xk, xf, xl, xd⟩ := x
        simp only at s0 s1 s2 s3 hcd hbs hdl hsl hdo hb2
        have HT := Lib.hid (And.intro htk (And.intro hdo (And.intro hb2 hL)))
        clear htk hx hbs hdo hb2 hL h6 hok hbase hX hdl
        go_wp2_with fail
        refine HT.out.2.1.mono ?_
        rintro e w3 ⟨D, c8, rfl, hbs8, hb8⟩
        have hown3 := (hown.below HT.out.2.2.1).below hb8
        have hbw3 : Below w1.heap.size w1 w3 := hbw.trans ((HT.out.2.2.1.trans (hb8.mono HT.out.2.2.1.size)).mono hbw.size)
        clear hb8
        go_wp2_with (at_builtin; refine wpList_app bt rfl _ _ rfl w1.heap.size Ao L co _ rfl hown3 _ D X.length c8 X rfl hbs8 hq hbw3.size ?_; intro A5 c5 w5 hown5 hg5 hat5)
        have hbw5 := below_of_grown hbw3 hbw3.size hown3 (Nat.le_refl _) hg5
        clear hown3 hbs8 hbw3 hg5
        go_roundg (gk - 1)
        case measure => have := HGK.out; omega
        case rel => exact ⟨k + 1, A5, c5, L + X.length, by have := HGK.out; omega, by go_num, rfl, by rw [HT.out.1, List.length_append, ← HT.out.2.2.2], by rw [HT.out.1]; exact hown5, hbw5⟩
      · obtain rfl : k = n := by omega
        rw [List.take_of_length_le (by rw [HL.out.1]; omega)] at hown hL
        have HO := Lib.hid (And.intro hown hL)
        clear hown hL
        go_wp2_with fail
        go_ret2
        have hR2 := HB.out.2.1
        obtain ⟨hown, rfl⟩ := HO.out
        subst hR2
        exact ⟨Ao, co, rfl, hown.bs, hb1.trans (hbw.mono hb1.size)⟩
  · have b1 : ((E : Int) != 0) = true := by rw [bne_iff_ne]; omega
    have hR2 : R = ([], E) := by
      rw [HL.out.2.2.1]; unfold Gr.applyP
      rw [if_pos (by rw [← HL.out.2.2.2.1]; exact hE0), ← HL.out.2.2.2.1]
    subst hR2
    go_wp2_with fail
    go_ret2
    exact ⟨none, 0, rfl, BS.nil _ _ _, hb1⟩
end Go.Proofs.Ytmnanbcinfdbaaa
