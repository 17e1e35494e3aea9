/- The walks of Check: delta's; conditions: none beyond their hypotheses. The walks of Out, and Light; right steps are read as they were; conditions: none beyond their hypotheses. -/
import Derived.Test.YtmnanbcinfdbaaaDoorMgEs2
set_option linter.unusedSimpArgs false
set_option linter.unusedVariables false
section
namespace Go.Proofs.Gr
set_option linter.unusedVariables false
def stepOut (o : Nat × Nat) (l : Int) : Nat × Nat := if 4096 - (o.2 : Int) < l then (13, 4096) else (o.1, o.2 + l.toNat)
def outs (l : List Stp) : Nat × Nat := l.foldl (fun o s => stepOut o s.l) (0, 0)
theorem outs_take (l : List Stp) (k : Nat) (s : Stp) (h : l[k]? = some s) : outs (l.take (k + 1)) = stepOut (outs (l.take k)) s.l := by
  rw [List.take_add_one, h]; simp [outs]
theorem outs_le (l : List Stp) : (outs l).2 ≤ 4096 := by
  unfold outs
  have : ∀ (l : List Stp) (o : Nat × Nat), o.2 ≤ 4096 → (l.foldl (fun o s => stepOut o s.l) o).2 ≤ 4096 := by
    intro l
    induction l with
    | nil => intro o h; exact h
    | cons x l ih =>
      intro o h
      refine ih _ ?_
      unfold stepOut; dsimp only; split
      · exact Nat.le_refl _
      · simp only; omega
  exact this l _ (by decide)
theorem outs_fst (l : List Stp) : (outs l).1 = 0 ∨ (outs l).1 = 13 := by
  unfold outs
  have : ∀ (l : List Stp) (o : Nat × Nat), (o.1 = 0 ∨ o.1 = 13) → (l.foldl (fun o s => stepOut o s.l) o).1 = 0 ∨ (l.foldl (fun o s => stepOut o s.l) o).1 = 13 := by
    intro l
    induction l with
    | nil => intro o h; exact h
    | cons x l ih =>
      intro o h
      refine ih _ ?_
      unfold stepOut; dsimp only; split
      · exact .inr rfl
      · exact h
  exact this l _ (.inl rfl)
def checkP (l : List Stp) (n : Int) : Nat := if l.all (okS n) then (outs l).1 else 2
theorem checkP_bad {l : List Stp} {n : Int} {k : Nat} {s : Stp} (h : l[k]? = some s) (hs : okS n s = false) : checkP l n = 2 := by
  unfold checkP
  rw [if_neg]
  intro ha
  rw [List.all_eq_true] at ha
  have := ha s (List.mem_of_getElem? h)
  rw [hs] at this; exact absurd this (by decide)
theorem okS_len {n : Int} {s : Stp} (h : okS n s = true) (hn : n ≤ 4096) : 1 ≤ s.l ∧ s.l ≤ 4096 := by
  unfold okS okR at h
  simp only [Bool.or_eq_true, Bool.and_eq_true, beq_iff_eq, decide_eq_true_eq] at h
  omega
theorem all_take {l : List Stp} {n : Int} {k : Nat} {s : Stp} (h : l[k]? = some s) (ha : (l.take k).all (okS n) = true) (hs : okS n s = true) : (l.take (k + 1)).all (okS n) = true := by
  rw [List.take_add_one, h]; simp only [List.all_append, ha]; simp [hs]
end Go.Proofs.Gr
namespace Go.Proofs.YtmnanbcinfdbaaaDoor
open Go.RowKit Go.Proofs.U
set_option linter.unusedVariables false

set_option maxRecDepth 100000 in
set_option maxHeartbeats 4000000 in
theorem dcheck_any (A : Option Addr) (n c : Nat) (l : List Gr.Stp) (N : Int) (w : World) (h : SP w A n l) (hr : ∀ x ∈ l, Rng x) (hn : n ≤ 5000) (hd : dsum l ≤ 20000) (hN : 0 ≤ N ∧ N ≤ 4096) :
    Calls Tryd.prog 56 #[.slice A n c, .int .i64 N] w fun e w' => e = .returned (.int .i64 ((Gr.checkP l N : Nat) : Int)) ∧ Below w.heap.size w w' := by
  obtain ⟨hzS, _⟩ := Go.zero_of_info zeroS
  have hll := h.1
  obtain ⟨E, hE⟩ : ∃ E, E = Gr.checkP l N := ⟨_, rfl⟩
  rw [← hE]
  have HL := Lib.hid (And.intro hll (And.intro hr (And.intro hd hE)))
  obtain ⟨N1, N2⟩ := hN
  clear hll hr hd hE
  go_enter Tryd.func56, Tryd.ntmps56
  go_wp2_with fail
  go_loopg [5, 6, 11] n (fun r e o i wr => ∃ k : Nat, r + k = n ∧ i = .int .i64 k ∧ e = .int .i64 (((Gr.outs (l.take k)).1 : Nat) : Int) ∧ o = .int .i64 (((Gr.outs (l.take k)).2 : Nat) : Int) ∧ (l.take k).all (Gr.okS N) = true ∧ Below w.heap.size w wr)
  case atStart => exact ⟨0, rfl, rfl, rfl, rfl, rfl, Below.refl _ _⟩
  case round =>
    obtain ⟨k, hgk, rfl, rfl, rfl, hall, hbw⟩ := hrel
    have HGK := Lib.hid (And.intro hgk hall)
    clear hall
    obtain ⟨wo, rfl⟩ : ∃ wo : World, wo = wr := ⟨_, rfl⟩
    by_cases hlt : k < n
    · clear hgk
      obtain ⟨b, off, x, A', c', rfl, hbl, hx, s0, s1, s2, s3, hcd, hbs⟩ := h.at_ hlt
      replace s0 := (hbw.cell (p := ⟨b, _, none⟩) hbl).trans s0
      replace s1 := (hbw.cell (p := ⟨b, _, none⟩) hbl).trans s1
      replace s2 := (hbw.cell (p := ⟨b, _, none⟩) hbl).trans s2
      replace s3 := (hbw.cell (p := ⟨b, _, none⟩) hbl).trans s3
      have htk := Gr.outs_take l k x hx
      have hle := Gr.outs_le (l.take k)
      have hf13 := Gr.outs_fst (l.take k)
      obtain ⟨⟨e0, o0⟩, hO⟩ : ∃ r, Gr.outs (l.take k) = r := ⟨_, rfl⟩
      rw [hO] at htk hle hf13 ⊢
      simp only at htk hle hf13 ⊢
      have hmem := List.mem_of_getElem? hx
      have hrx := HL.out.2.1 x hmem
      have hdx := dsum_mem l x hmem
      have hdx2 := HL.out.2.2.1
      have hal := fun hs => Gr.all_take (s := x) (n := N) hx HGK.out.2 hs
      have hbad := fun hs => Gr.checkP_bad (s := x) (n := N) hx hs
      have hsl := fun hs => Gr.okS_len (s := x) (n := N) hs N2
      have hd1 : x.d.length ≤ 20000 := by omega
      obtain ⟨xk, xf, xl, xd⟩ := x
      obtain ⟨⟨rk1, rk2⟩, ⟨rf1, rf2⟩, ⟨rl1, rl2⟩⟩ := hrx
      simp only at s0 s1 s2 s3 hcd hbs rk1 rk2 rf1 rf2 rl1 rl2 hd1 htk hsl
      have HT := Lib.hid (And.intro htk (And.intro hal (And.intro hbad (And.intro hsl hbs))))
      clear htk hx hmem hdx hdx2 hbs hal hbad hsl hO
      have hb1 : Below wo.heap.size wo (wo.alloc (.cells #[.int .i64 xk, .int .i64 xf, .int .i64 xl, .slice A' xd.length c'] 68)) := (Below.refl _ _).alloc (Nat.le_refl _) _
      have hk1 : Blk (wo.alloc (.cells #[.int .i64 xk, .int .i64 xf, .int .i64 xl, .slice A' xd.length c'] 68)) wo.heap.size 68 #[.int .i64 xk, .int .i64 xf, .int .i64 xl, .slice A' xd.length c'] := Blk.new _ _ _
      have HB := Lib.hid (And.intro hb1 hk1)
      clear hb1 hk1
      go_wp2_with fail
      refine (dright_any xk xf xl A' xd.length c' N _ ⟨rf1, rf2⟩ ⟨rl1, rl2⟩ hd1 ⟨N1, N2⟩).mono ?_
      rintro e w1 ⟨rfl, hbr⟩
      have hbw1 := hbw.trans ((HB.out.1.trans (hbr.mono HB.out.1.size)).mono hbw.size)
      have hS1 := HB.out.2.stay hbr
      have c2 := hS1.cell 2
      simp at c2
      clear hbr hS1 s0 s1 s2 s3
      cases hok : Gr.okR xk xf xl xd.length N
      · have hE2 : E = 2 := by rw [HL.out.2.2.2, HT.out.2.2.1 hok]
        subst hE2
        go_wp2_with fail
        go_ret
        exact ⟨rfl, hbw1⟩
      · obtain ⟨g1, g2⟩ := HT.out.2.2.2.1 hok
        have hal := HT.out.2.1 hok
        have HA := Lib.hid hal
        clear hal hok
        have hst := HT.out.1
        unfold Gr.stepOut at hst
        simp only at hst
        by_cases hbig : 4096 - (o0 : Int) < xl
        · rw [if_pos hbig] at hst
          have HST := Lib.hid hst
          clear hst
          go_wp2_with fail
          go_roundg (gk - 1)
          case measure => have := HGK.out.1; omega
          case rel => exact ⟨k + 1, by have := HGK.out.1; omega, by go_num, by rw [HST.out]; rfl, by rw [HST.out]; rfl, HA.out, hbw1⟩
        · rw [if_neg hbig] at hst
          have HST := Lib.hid hst
          clear hst
          go_wp2_with fail
          go_roundg (gk - 1)
          case measure => have := HGK.out.1; omega
          case rel => exact ⟨k + 1, by have := HGK.out.1; omega, by go_num, by rw [HST.out], by rw [HST.out]; simp only; go_num, HA.out, hbw1⟩
    · obtain rfl : k = n := by omega
      have hE2 : E = (Gr.outs l).1 := by
        have := HGK.out.2
        rw [List.take_of_length_le (by rw [HL.out.1]; omega)] at this
        rw [HL.out.2.2.2]; unfold Gr.checkP; rw [if_pos this]
      rw [List.take_of_length_le (by rw [HL.out.1]; omega)]
      rw [← hE2]
      generalize (Gr.outs l).2 = o1
      go_wp2_with fail
      go_ret
      exact ⟨rfl, hbw⟩
end Go.Proofs.YtmnanbcinfdbaaaDoor
end

section
namespace Go.Proofs.Gr
set_option linter.unusedVariables false
theorem numB_ne (n : Nat) : numB n ≠ [] := by unfold numB; simp
theorem okS_inv {n : Int} {s : Stp} (h : okS n s = true) (hn : n ≤ 4096) :
    (∃ f l : Nat, s = ⟨1, f, l, []⟩ ∧ f ≤ 4096 ∧ 1 ≤ l ∧ l ≤ 4096) ∨ (∃ d, s = ⟨2, 0, (d.length : Nat), d⟩ ∧ 1 ≤ d.length ∧ d.length ≤ 128) := by
  obtain ⟨k, f, l, d⟩ := s
  unfold okS okR at h
  simp only [Bool.or_eq_true, Bool.and_eq_true, beq_iff_eq, decide_eq_true_eq] at h
  rcases h with ⟨⟨⟨⟨⟨rfl, h1⟩, h2⟩, h3⟩, h4⟩, h5⟩ | ⟨⟨⟨⟨rfl, rfl⟩, h2⟩, h3⟩, rfl⟩
  · refine .inl ⟨f.toNat, l.toNat, ?_, by omega, by omega, by omega⟩
    rw [List.eq_nil_of_length_eq_zero h1]
    congr 1 <;> omega
  · exact .inr ⟨d, rfl, h2, h3⟩
/-- a right step that was written is read -/
theorem nextP_wrS {n : Int} {s : Stp} (r : List UInt8) (h : okS n s = true) (hn : n ≤ 4096) : nextP (wrS s ++ r) = (s, (wrS s).length, 0) := by
  rcases okS_inv h hn with ⟨f, l, rfl, hf, hl1, hl⟩ | ⟨d, rfl, hd1, hd⟩
  · have hb : wrS ⟨1, f, l, []⟩ ++ r = numB 1 ++ (numB f ++ (numB l ++ r)) := by unfold wrS natI; simp
    have e1 : numP 2 (numB 1 ++ (numB f ++ (numB l ++ r))) 0 = (1, numB f ++ (numB l ++ r), 0) := numP_pos (enum_numB _ (by decide) (by decide)) (by simp)
    have e2 : enum 4096 (numB f ++ (numB l ++ r)) 0 = (f, numB l ++ r, 0) := enum_numB _ (by omega) hf
    have e3 : numP 4096 (numB l ++ r) 0 = (l, r, 0) := numP_pos (enum_numB _ (by omega) hl) (by simp only; omega)
    rw [← hb] at e1
    rw [nextP1_ok e1 e2 e3, List.length_append, Nat.add_sub_cancel]
  · have hb : wrS ⟨2, 0, (d.length : Nat), d⟩ ++ r = numB 2 ++ (numB d.length ++ (d ++ r)) := by unfold wrS; simp
    have e1 : numP 2 (numB 2 ++ (numB d.length ++ (d ++ r))) 0 = (2, numB d.length ++ (d ++ r), 0) := numP_pos (enum_numB _ (by decide) (by decide)) (by simp)
    have e2 : etext 128 (numB d.length ++ (d ++ r)) 0 = (d, r, 0) := by
      rw [etext_ok (enum_numB (d ++ r) (by omega) hd) rfl (by simp)]; simp
    have e3 : (if d.length = 0 then efail 2 r 0 else (r, 0)) = (r, 0) := by rw [if_neg (by omega)]
    rw [← hb] at e1
    rw [nextP2_ok e1 e2 e3, List.length_append, Nat.add_sub_cancel]
theorem rd_wrP {n : Int} (hn : n ≤ 4096) : ∀ (l : List Stp) (acc : List Stp) (r : List UInt8), l.all (okS n) = true → rd (wrP l).length acc (wrP l) = (acc ++ l, 0)
  | [], acc, r, _ => by simp [wrP, rd]
  | x :: l, acc, r, h => by
    simp only [List.all_cons, Bool.and_eq_true] at h
    have hx := nextP_wrS (wrP l) h.1 hn
    have hw : wrP (x :: l) = wrS x ++ wrP l := by simp [wrP]
    have hne : wrS x ++ wrP l ≠ [] := by
      intro hc
      have := nextP_prog hx
      have h2 := congrArg List.length hc
      simp only [List.length_append, List.length_nil] at h2
      omega
    rw [hw, rd_step hne hx, List.drop_left' rfl, rd_wrP hn l _ r h.2]
    simp
theorem readP_wrP {n : Int} (hn : n ≤ 4096) (l : List Stp) (h : l.all (okS n) = true) : readP (wrP l) = (l, 0) := by
  unfold readP
  rw [rd_wrP hn l [] [] h]; simp
end Go.Proofs.Gr
namespace Go.Proofs.Gr
set_option linter.unusedVariables false
/-- how many bytes right steps make -/
def lsum (l : List Stp) : Int := (l.map fun s => s.l).sum
theorem lsum_take (l : List Stp) (k : Nat) (s : Stp) (h : l[k]? = some s) : lsum (l.take (k + 1)) = lsum (l.take k) + s.l := by
  rw [List.take_add_one, h]; simp [lsum]
theorem lsum_ok {n : Int} (hn : n ≤ 4096) (l : List Stp) (h : l.all (okS n) = true) (k : Nat) : 0 ≤ lsum (l.take k) ∧ lsum (l.take k) ≤ 4096 * k := by
  induction k with
  | zero => simp [lsum]
  | succ k ih =>
    rcases hx : l[k]? with _ | x
    · have : l.take (k + 1) = l.take k := by rw [List.take_add_one, hx]; simp
      rw [this]; omega
    · rw [lsum_take l k x hx]
      have := okS_len (List.all_eq_true.1 h x (List.mem_of_getElem? hx)) hn
      omega
end Go.Proofs.Gr
namespace Go.Proofs.YtmnanbcinfdbaaaDoor
open Go.RowKit Go.Proofs.U
set_option linter.unusedVariables false

set_option maxRecDepth 100000 in
set_option maxHeartbeats 4000000 in
theorem dout_any (A : Option Addr) (n c : Nat) (l : List Gr.Stp) (N : Int) (w : World) (h : SP w A n l) (hn : n ≤ 5000) (hN : N ≤ 4096) (hok : l.all (Gr.okS N) = true) :
    Calls Tryd.prog 57 #[.slice A n c] w fun e w' => e = .returned (.int .i64 (Gr.lsum l)) ∧ Below w.heap.size w w' := by
  obtain ⟨hzS, _⟩ := Go.zero_of_info zeroS
  have hll := h.1
  have HL := Lib.hid (And.intro hll hok)
  clear hll hok
  go_enter Tryd.func57, Tryd.ntmps57
  go_wp2_with fail
  go_loopg [2, 7] n (fun r o i wr => ∃ k : Nat, r + k = n ∧ i = .int .i64 k ∧ o = .int .i64 (Gr.lsum (l.take k)) ∧ Below w.heap.size w wr)
  case atStart => exact ⟨0, rfl, rfl, rfl, Below.refl _ _⟩
  case round =>
    obtain ⟨k, hgk, rfl, rfl, hbw⟩ := hrel
    have HGK := Lib.hid hgk
    obtain ⟨wo, rfl⟩ : ∃ wo : World, wo = wr := ⟨_, rfl⟩
    obtain ⟨o1, o2⟩ := Gr.lsum_ok hN l HL.out.2 k
    by_cases hlt : k < n
    · clear hgk
      obtain ⟨b, off, x, A', c', rfl, hbl, hx, s0, s1, s2, s3, hcd, hbs⟩ := h.at_ hlt
      replace s0 := (hbw.cell (p := ⟨b, _, none⟩) hbl).trans s0
      replace s1 := (hbw.cell (p := ⟨b, _, none⟩) hbl).trans s1
      replace s2 := (hbw.cell (p := ⟨b, _, none⟩) hbl).trans s2
      replace s3 := (hbw.cell (p := ⟨b, _, none⟩) hbl).trans s3
      have htk := Gr.lsum_take l k x hx
      have hsl := Gr.okS_len (List.all_eq_true.1 HL.out.2 x (List.mem_of_getElem? hx)) hN
      obtain ⟨xk, xf, xl, xd⟩ := x
      simp only at s0 s1 s2 s3 hcd hbs htk hsl
      obtain ⟨g1, g2⟩ := hsl
      generalize hL : Gr.lsum (l.take k) = L at htk o1 o2 ⊢
      have HT := Lib.hid (And.intro htk hbs)
      clear htk hx hbs hL
      have hb1 : Below wo.heap.size wo (wo.alloc (.cells #[.int .i64 xk, .int .i64 xf, .int .i64 xl, .slice A' xd.length c'] 68)) := (Below.refl _ _).alloc (Nat.le_refl _) _
      have HB := Lib.hid hb1
      clear hb1
      go_wp2_with fail
      go_roundg (gk - 1)
      case measure => have := HGK.out; omega
      case rel => exact ⟨k + 1, by have := HGK.out; omega, by go_num, by rw [HT.out.1], hbw.trans (HB.out.mono hbw.size)⟩
    · obtain rfl : k = n := by omega
      rw [List.take_of_length_le (by rw [HL.out.1]; omega)]
      go_wp2_with fail
      go_ret
      exact ⟨rfl, hbw⟩

/-- what Light answers -/
def LightRet (w : World) (n : Nat) (l : List Gr.Stp) (e : Ending) (w' : World) : Prop := ∃ r : Bool, e = .returned (.bool r) ∧ (r = true → n ≤ 300 ∧ dsum l ≤ 20000) ∧ Below w.heap.size w w'
theorem dsum_snoc (l : List Gr.Stp) (k : Nat) (s : Gr.Stp) (h : l[k]? = some s) : dsum (l.take (k + 1)) = dsum (l.take k) + s.d.length := by
  rw [List.take_add_one, h]; simp [dsum]
theorem dsum_bd (l : List Gr.Stp) (h : ∀ x ∈ l, x.d.length ≤ 140737488355328) (k : Nat) : dsum (l.take k) ≤ 140737488355328 * k := by
  induction k with
  | zero => simp [dsum]
  | succ k ih =>
    rcases hx : l[k]? with _ | x
    · have : l.take (k + 1) = l.take k := by rw [List.take_add_one, hx]; simp
      rw [this]; omega
    · rw [dsum_snoc l k x hx]
      have := h x (List.mem_of_getElem? hx)
      omega
set_option maxRecDepth 100000 in
set_option maxHeartbeats 4000000 in
theorem light_any (A : Option Addr) (n c : Nat) (l : List Gr.Stp) (w : World) (h : SP w A n l) (hbd : ∀ x ∈ l, x.d.length ≤ 140737488355328) (hn : n ≤ maxLen) :
    Calls Tryd.prog 51 #[.slice A n c] w (LightRet w n l) := by
  obtain ⟨hzS, _⟩ := Go.zero_of_info zeroS
  unfold maxLen at hn
  have hll := h.1
  have HL := Lib.hid (And.intro hll hbd)
  clear hll hbd
  by_cases h3 : n ≤ 300
  · have q3 : decide ((n : Int) ≤ 300) = true := by simp; omega
    go_enter Tryd.func51, Tryd.ntmps51
    go_wp2_with fail
    go_loopg [3, 8] n (fun r o i wr => ∃ k : Nat, r + k = n ∧ i = .int .i64 k ∧ o = .int .i64 ((dsum (l.take k) : Nat) : Int) ∧ Below w.heap.size w wr)
    case atStart => exact ⟨0, rfl, rfl, rfl, Below.refl _ _⟩
    case round =>
      obtain ⟨k, hgk, rfl, rfl, hbw⟩ := hrel
      have HGK := Lib.hid hgk
      obtain ⟨wo, rfl⟩ : ∃ wo : World, wo = wr := ⟨_, rfl⟩
      have o2 := dsum_bd l HL.out.2 k
      replace o2 : dsum (l.take k) ≤ 42221246506598400 := by omega
      by_cases hlt : k < n
      · clear hgk
        obtain ⟨b, off, x, A', c', rfl, hbl, hx, s0, s1, s2, s3, hcd, hbs⟩ := h.at_ hlt
        replace s0 := (hbw.cell (p := ⟨b, _, none⟩) hbl).trans s0
        replace s1 := (hbw.cell (p := ⟨b, _, none⟩) hbl).trans s1
        replace s2 := (hbw.cell (p := ⟨b, _, none⟩) hbl).trans s2
        replace s3 := (hbw.cell (p := ⟨b, _, none⟩) hbl).trans s3
        have htk := dsum_snoc l k x hx
        have hsl := HL.out.2 x (List.mem_of_getElem? hx)
        obtain ⟨xk, xf, xl, xd⟩ := x
        simp only at s0 s1 s2 s3 hcd hbs htk hsl
        generalize hL : dsum (l.take k) = L at htk o2 ⊢
        have HT := Lib.hid (And.intro htk hbs)
        clear htk hx hbs hL
        have hb1 : Below wo.heap.size wo (wo.alloc (.cells #[.int .i64 xk, .int .i64 xf, .int .i64 xl, .slice A' xd.length c'] 68)) := (Below.refl _ _).alloc (Nat.le_refl _) _
        have HB := Lib.hid hb1
        clear hb1
        go_wp2_with fail
        go_roundg (gk - 1)
        case measure => have := HGK.out; omega
        case rel => exact ⟨k + 1, by have := HGK.out; omega, by go_num, by rw [HT.out.1]; go_num, hbw.trans (HB.out.mono hbw.size)⟩
      · obtain rfl : k = n := by omega
        rw [List.take_of_length_le (by rw [HL.out.1]; omega)] at o2 ⊢
        by_cases hD : dsum l ≤ 20000
        · have q4 : decide (((dsum l : Nat) : Int) ≤ 20000) = true := by simp; omega
          go_wp2_with fail
          go_ret
          exact ⟨true, by first | rfl | simp [hD], fun _ => ⟨h3, hD⟩, hbw⟩
        · have q4 : decide (((dsum l : Nat) : Int) ≤ 20000) = false := by simp; omega
          go_wp2_with fail
          go_ret
          exact ⟨false, rfl, fun h => absurd h (by decide), hbw⟩
  · have q3 : decide ((n : Int) ≤ 300) = false := by simp; omega
    go_enter Tryd.func51, Tryd.ntmps51
    go_wp2_with fail
    go_loopg [3, 8] n (fun r o i wr => ∃ (k : Nat) (z : Int), r + k = n ∧ i = .int .i64 k ∧ o = .int .i64 z ∧ Below w.heap.size w wr)
    case atStart => exact ⟨0, 0, rfl, rfl, rfl, Below.refl _ _⟩
    case round =>
      obtain ⟨k, z, hgk, rfl, rfl, hbw⟩ := hrel
      have HGK := Lib.hid hgk
      obtain ⟨wo, rfl⟩ : ∃ wo : World, wo = wr := ⟨_, rfl⟩
      by_cases hlt : k < n
      · clear hgk
        obtain ⟨b, off, x, A', c', rfl, hbl, hx, s0, s1, s2, s3, hcd, hbs⟩ := h.at_ hlt
        replace s0 := (hbw.cell (p := ⟨b, _, none⟩) hbl).trans s0
        replace s1 := (hbw.cell (p := ⟨b, _, none⟩) hbl).trans s1
        replace s2 := (hbw.cell (p := ⟨b, _, none⟩) hbl).trans s2
        replace s3 := (hbw.cell (p := ⟨b, _, none⟩) hbl).trans s3
        obtain ⟨xk, xf, xl, xd⟩ := x
        simp only at s0 s1 s2 s3 hcd hbs
        clear hx hbs
        have hb1 : Below wo.heap.size wo (wo.alloc (.cells #[.int .i64 xk, .int .i64 xf, .int .i64 xl, .slice A' xd.length c'] 68)) := (Below.refl _ _).alloc (Nat.le_refl _) _
        have HB := Lib.hid hb1
        clear hb1
        go_wp2_with fail
        go_roundg (gk - 1)
        case measure => have := HGK.out; omega
        case rel => exact ⟨k + 1, _, by have := HGK.out; omega, by go_num, rfl, hbw.trans (HB.out.mono hbw.size)⟩
      · obtain rfl : k = n := by omega
        go_wp2_with fail
        go_ret
        exact ⟨false, rfl, fun h => absurd h (by decide), hbw⟩
end Go.Proofs.YtmnanbcinfdbaaaDoor
end
