/- The shorter ones of steps and plain ones: plain facts, the walks of Short; conditions: none beyond their hypotheses. -/
import Derived.Test.YtmnanbcinfdbaaaDoorMgLaw18b
import Derived.Test.YtmnanbcinfdbaaaDoorMgEs3
set_option linter.unusedSimpArgs false
set_option linter.unusedVariables false
section
namespace Go.Proofs.YtmnanbcinfdbaaaDoor
open Go.RowKit Go.Proofs.U
set_option linter.unusedVariables false
def shortP (l : List Gr.Stp) (data : List UInt8) : List Gr.Stp := if (Gr.wrP l).length ≤ (Gr.wrP (tells [] data)).length then l else tells [] data
/-- told steps: all full but the last one -/
def FullT (l : List Gr.Stp) (k : Nat) : Prop := (l = [] ∧ k = 0) ∨ ∃ ini d, l = ini ++ [⟨2, 0, (d.length : Int), d⟩] ∧ 1 ≤ d.length ∧ d.length ≤ 128 ∧ (∀ x ∈ ini, x.k = 2 ∧ x.d.length = 128) ∧ 128 * ini.length + d.length = k
theorem FullT.tell {l : List Gr.Stp} {k : Nat} (h : FullT l k) (c : UInt8) : FullT (tell l c) (k + 1) := by
  rcases h with ⟨rfl, rfl⟩ | ⟨ini, d, rfl, h1, h2, h3, h4⟩
  · exact .inr ⟨[], [c], rfl, by simp, by simp, (by intro x hx; cases hx), by simp⟩
  · by_cases hd : d.length < 128
    · rw [tell_open _ _ _ _ _ (by omega)]
      exact .inr ⟨ini, d ++ [c], by simp, by simp, by simp; omega, h3, by simp; omega⟩
    · rw [tell_shut _ _ (by intro s hs; rw [List.getLast?_concat] at hs; injection hs with hs; subst hs; simp only; omega)]
      refine .inr ⟨ini ++ [⟨2, 0, (d.length : Int), d⟩], [c], by simp, by simp, by simp, fun x hx => ?_, by simp; omega⟩
      rcases List.mem_append.1 hx with hx | hx
      · exact h3 x hx
      · simp only [List.mem_singleton] at hx; subst hx; exact ⟨rfl, by simp only; omega⟩
theorem FullT.tells : ∀ {bs : List UInt8} {l : List Gr.Stp} {k : Nat}, FullT l k → FullT (tells l bs) (k + bs.length)
  | [], l, k, h => h
  | c :: bs, l, k, h => by
    rw [tells_cons, List.length_cons, show k + (bs.length + 1) = k + 1 + bs.length by omega]
    exact FullT.tells (h.tell c)
theorem numB_small (n : Nat) (h : n ≤ 128) : (Gr.numB n).length ≤ 2 := by
  have := (Gr.digs_lt n 1 (by decide) (by omega)).2 (by omega)
  unfold Gr.numB
  simp only [List.length_cons]
  omega
theorem wrS_lit (x : Gr.Stp) (hk : x.k = 2) (h : x.d.length ≤ 128) : (Gr.wrS x).length ≤ 4 + x.d.length := by
  have h1 := numB_small 2 (by decide)
  have h2 := numB_small x.d.length h
  unfold Gr.wrS
  rw [if_neg (by omega)]
  simp only [List.length_append]
  omega
theorem wrP_full : ∀ (l : List Gr.Stp), (∀ x ∈ l, x.k = 2 ∧ x.d.length = 128) → (Gr.wrP l).length ≤ 132 * l.length
  | [], _ => by simp [Gr.wrP]
  | x :: l, h => by
    have ih := wrP_full l (fun y hy => h y (List.mem_cons_of_mem _ hy))
    obtain ⟨h1, h2⟩ := h x (List.mem_cons_self)
    have h3 := wrS_lit x h1 (by omega)
    have : Gr.wrP (x :: l) = Gr.wrS x ++ Gr.wrP l := by simp [Gr.wrP]
    rw [this, List.length_append, List.length_cons]
    omega
/-- plain steps make a short stream -/
theorem plain_len (data : List UInt8) (h : data.length ≤ 4096) : (Gr.wrP (tells [] data)).length ≤ 4300 := by
  have hf : FullT (tells [] data) (0 + data.length) := FullT.tells (.inl ⟨rfl, rfl⟩)
  rcases hf with ⟨h1, _⟩ | ⟨ini, d, h1, h2, h3, h4, h5⟩
  · rw [h1]; simp [Gr.wrP]
  · rw [h1, Gr.wrP_snoc, List.length_append]
    have a := wrP_full ini h4
    have b := wrS_lit ⟨2, 0, (d.length : Int), d⟩ rfl h3
    simp only at b
    omega
theorem short_len (l : List Gr.Stp) (data : List UInt8) (h : data.length ≤ 4096) : (Gr.wrP (shortP l data)).length ≤ 8300 := by
  have := plain_len data h
  unfold shortP
  split <;> omega
theorem OkS.okS {s nb : Nat} {x : Gr.Stp} (h : OkS s nb x) (hn : nb ≤ 4096) (hs : 1 ≤ s) : Gr.okS (nb : Int) x = true := by
  unfold Gr.okS Gr.okR
  rcases h with ⟨a, b, rfl, h1, h2⟩ | ⟨d, rfl, h1, h2⟩
  · have hm : (a + b) * s ≤ nb / s * s := Nat.mul_le_mul_right s h2
    have hd : nb / s * s ≤ nb := Nat.div_mul_le_self _ s
    have hb : 1 * s ≤ b * s := Nat.mul_le_mul_right s h1
    rw [Nat.add_mul] at hm
    generalize a * s = F at *
    generalize b * s = L at *
    simp only [Bool.or_eq_true, Bool.and_eq_true, beq_iff_eq, decide_eq_true_eq, List.length_nil]
    left
    refine ⟨⟨⟨⟨⟨trivial, trivial⟩, ?_⟩, ?_⟩, ?_⟩, ?_⟩ <;> omega
  · simp only [Bool.or_eq_true, Bool.and_eq_true, beq_iff_eq, decide_eq_true_eq]
    right
    exact ⟨⟨⟨⟨trivial, trivial⟩, h1⟩, h2⟩, trivial⟩
theorem Oks.all {s nb : Nat} {l : List Gr.Stp} (h : Oks s nb l) (hn : nb ≤ 4096) (hs : 1 ≤ s) : l.all (Gr.okS (nb : Int)) = true :=
  List.all_eq_true.2 fun x hx => (h x hx).okS hn hs
theorem lsum_cons (x : Gr.Stp) (l : List Gr.Stp) : Gr.lsum (x :: l) = x.l + Gr.lsum l := by simp [Gr.lsum]
theorem Oks.lsum {base : List UInt8} {s : Nat} : ∀ {l : List Gr.Stp}, Oks s base.length l → Gr.lsum l = ((outL base l).length : Int)
  | [], _ => rfl
  | x :: l, h => by
    have ih := Oks.lsum (fun y hy => h y (List.mem_cons_of_mem _ hy) : Oks s base.length l)
    have hx := h x (List.mem_cons_self)
    have e1 : outL base (x :: l) = outS base x ++ outL base l := by simp [outL]
    rw [lsum_cons, ih, e1, List.length_append]
    rcases hx with ⟨a, b, rfl, h1, h2⟩ | ⟨d, rfl, h1, h2⟩
    · have hm : (a + b) * s ≤ base.length / s * s := Nat.mul_le_mul_right s h2
      have hd : base.length / s * s ≤ base.length := Nat.div_mul_le_self _ s
      rw [Nat.add_mul] at hm
      simp only [outS, if_true, List.length_take, List.length_drop]
      rw [show (((a * s : Nat) : Int)).toNat = a * s from rfl, show (((b * s : Nat) : Int)).toNat = b * s from rfl]
      rw [Nat.min_eq_left (by omega)]
      push_cast
      omega
    · simp [outS]
theorem outs_sum (N : Int) : ∀ (l : List Gr.Stp) (o : Nat), (∀ x ∈ l, 0 ≤ x.l) → (o : Int) + Gr.lsum l ≤ 4096 → (l.foldl (fun o s => Gr.stepOut o s.l) (0, o)).1 = 0
  | [], o, _, _ => rfl
  | x :: l, o, h, hs => by
    have hx := h x (List.mem_cons_self)
    rw [lsum_cons] at hs
    have hl : 0 ≤ Gr.lsum l := by
      clear hs
      induction l with
      | nil => exact Int.le_refl _
      | cons y l ih =>
        rw [lsum_cons]
        have := h y (by simp)
        have := ih (fun z hz => h z (by rcases List.mem_cons.1 hz with hz | hz <;> simp [hz]))
        omega
    rw [List.foldl_cons]
    have : Gr.stepOut (0, o) x.l = (0, o + x.l.toNat) := by
      unfold Gr.stepOut
      simp only
      rw [if_neg (by omega)]
    rw [this]
    exact outs_sum N l _ (fun y hy => h y (List.mem_cons_of_mem _ hy)) (by push_cast; omega)
/-- right steps whose bytes fit are right -/
theorem check_ok {base : List UInt8} {s : Nat} {l : List Gr.Stp} (h : Oks s base.length l) (hn : base.length ≤ 4096) (hs : 1 ≤ s) (ho : (outL base l).length ≤ 4096) : Gr.checkP l (base.length : Int) = 0 := by
  unfold Gr.checkP
  rw [h.all hn hs]
  simp only [if_true]
  refine outs_sum 0 l 0 (fun x hx => ?_) (by rw [h.lsum]; omega)
  rcases h x hx with ⟨a, b, rfl, _, _⟩ | ⟨d, rfl, _, _⟩
  · simp only; omega
  · simp only; omega
theorem Oks.rng {s nb : Nat} {l : List Gr.Stp} (h : Oks s nb l) (hn : nb ≤ 4096) : ∀ x ∈ l, Rng x := fun x hx => by
  have hf := h.few hn x hx
  rcases h x hx with ⟨a, b, rfl, _, h2⟩ | ⟨d, rfl, _, _⟩
  · have hm : (a + b) * s ≤ nb / s * s := Nat.mul_le_mul_right s h2
    have hd : nb / s * s ≤ nb := Nat.div_mul_le_self _ s
    rw [Nat.add_mul] at hm
    refine ⟨⟨?_, ?_⟩, ⟨?_, ?_⟩, ⟨?_, ?_⟩⟩ <;> simp only <;> omega
  · simp only at hf
    refine ⟨⟨?_, ?_⟩, ⟨?_, ?_⟩, ⟨?_, ?_⟩⟩ <;> simp only <;> omega
theorem Oks.dsum {s nb : Nat} : ∀ {l : List Gr.Stp}, Oks s nb l → Go.Proofs.YtmnanbcinfdbaaaDoor.dsum l ≤ 128 * l.length
  | [], _ => Nat.le_refl _
  | x :: l, h => by
    have ih := Oks.dsum (fun y hy => h y (List.mem_cons_of_mem _ hy) : Oks s nb l)
    have e : Go.Proofs.YtmnanbcinfdbaaaDoor.dsum (x :: l) = x.d.length + Go.Proofs.YtmnanbcinfdbaaaDoor.dsum l := by simp [Go.Proofs.YtmnanbcinfdbaaaDoor.dsum]
    rw [e, List.length_cons]
    rcases h x (List.mem_cons_self) with ⟨a, b, rfl, _, _⟩ | ⟨d, rfl, _, h2⟩
    · simp only [List.length_nil]; omega
    · simp only; omega
/-- the dsum of steps that stay few by their bytes: Oks ones tell no more than they make -/
def ShRet (w : World) (l : List Gr.Stp) (data : List UInt8) (e : Ending) (w' : World) : Prop := (∃ A n c, e = .returned (.slice A n c) ∧ n ≤ c ∧ SP w' A n (shortP l data)) ∧ Below w.heap.size w w'
set_option maxRecDepth 100000 in
set_option maxHeartbeats 4000000 in
theorem dshort_any (A : Option Addr) (n c : Nat) (l : List Gr.Stp) (Ad : Option Addr) (m cd : Nat) (data : List UInt8) (w : World) (h : SP w A n l) (hnc : n ≤ c) (hr : ∀ x ∈ l, Rng x) (hn : n ≤ 5000) (hd : dsum l ≤ 1000000000) (hb : BS w w.heap.size Ad m data) (hc : m ≤ cd) (hm : m ≤ 4096) :
    Calls Tryd.prog 53 #[.slice A n c, .slice Ad m cd] w (ShRet w l data) := by
  have hok : Oks 1 0 (tells [] data) := (Oks.nil 1 0).tells
  have hrp := hok.rng (by omega)
  have hdp := hok.dsum
  have hlp := tells_len data []
  rw [hb.1] at hlp
  simp only [List.length_nil] at hlp
  have hpd : dsum (tells [] data) ≤ 1000000000 := by omega
  have hlw := wrP_len l
  have hlw2 := wrP_len (tells [] data)
  have HP := Lib.hid (And.intro hrp (And.intro hpd hlp))
  have hll := h.1
  obtain ⟨P, hP⟩ : ∃ P, P = ShRet w l data := ⟨_, rfl⟩
  rw [← hP]
  obtain ⟨x, hx⟩ : ∃ x, x = (Gr.wrP l).length := ⟨_, rfl⟩
  obtain ⟨y, hy⟩ : ∃ y, y = (Gr.wrP (tells [] data)).length := ⟨_, rfl⟩
  have hsh : shortP l data = if x ≤ y then l else tells [] data := by rw [hx, hy]; rfl
  have hx1 : x ≤ 2000000000 := by omega
  have hy1 : y ≤ 2000000000 := by omega
  have HX := Lib.hid (And.intro hx (And.intro hy (And.intro hP hsh)))
  have HR := Lib.hid (And.intro hr hd)
  clear hx hy hP hsh hok hrp hdp hlp hpd hlw hlw2 hll hr hd
  have hpa := hplain_any Ad m cd data w hb hc (by omega)
  by_cases hxy : x ≤ y
  · have z1 : decide ((x : Int) ≤ (y : Int)) = true := by simp; omega
    have z2 : decide (x ≤ y) = true := by simp; omega
    have HXY := Lib.hid hxy
    clear hxy
    go_enter Tryd.func53, Tryd.ntmps53
    go_wp2_with fail
    refine hpa.mono ?_
    rintro e w1 ⟨⟨A1, n1, c1, rfl, hc1, hso1⟩, hb1⟩
    have hsp1 := hso1.sp
    have hn1 : n1 ≤ 1000000 := by have := hso1.len; have := HP.out.2.2; omega
    clear hso1
    go_wp2_with fail
    refine (dwrite_any A n c l w1 (h.below hb1) HR.out.1 (by omega) HR.out.2).mono ?_
    rintro e w2 ⟨A2, c2, rfl, -, hb2⟩
    rw [← HX.out.1]
    have hb12 := hb1.trans (hb2.mono hb1.size)
    go_wp2_with fail
    refine (dwrite_any A1 n1 c1 (tells [] data) w2 (hsp1.below hb2) HP.out.1 hn1 HP.out.2.1).mono ?_
    rintro e w3 ⟨A3, c3, rfl, -, hb3⟩
    rw [← HX.out.2.1]
    have hb13 := hb12.trans (hb3.mono hb12.size)
    go_wp2_with fail
    rw [HX.out.2.2.1]
    exact ⟨⟨A, n, c, rfl, hnc, by rw [HX.out.2.2.2, if_pos HXY.out]; exact h.below hb13⟩, hb13⟩
  · have z1 : decide ((x : Int) ≤ (y : Int)) = false := by simp; omega
    have z2 : decide (x ≤ y) = false := by simp; omega
    have HXY := Lib.hid hxy
    clear hxy
    go_enter Tryd.func53, Tryd.ntmps53
    go_wp2_with fail
    refine hpa.mono ?_
    rintro e w1 ⟨⟨A1, n1, c1, rfl, hc1, hso1⟩, hb1⟩
    have hsp1 := hso1.sp
    have hn1 : n1 ≤ 1000000 := by have := hso1.len; have := HP.out.2.2; omega
    clear hso1
    go_wp2_with fail
    refine (dwrite_any A n c l w1 (h.below hb1) HR.out.1 (by omega) HR.out.2).mono ?_
    rintro e w2 ⟨A2, c2, rfl, -, hb2⟩
    rw [← HX.out.1]
    have hb12 := hb1.trans (hb2.mono hb1.size)
    go_wp2_with fail
    refine (dwrite_any A1 n1 c1 (tells [] data) w2 (hsp1.below hb2) HP.out.1 hn1 HP.out.2.1).mono ?_
    rintro e w3 ⟨A3, c3, rfl, -, hb3⟩
    rw [← HX.out.2.1]
    have hb13 := hb12.trans (hb3.mono hb12.size)
    go_wp2_with fail
    rw [HX.out.2.2.1]
    exact ⟨⟨A1, n1, c1, rfl, hc1, by rw [HX.out.2.2.2, if_neg HXY.out]; exact (hsp1.below hb2).below hb3⟩, hb13⟩
set_option maxRecDepth 100000 in
set_option maxHeartbeats 4000000 in
theorem rshort_any (A : Option Addr) (n c : Nat) (l : List Gr.Stp) (Ad : Option Addr) (m cd : Nat) (data : List UInt8) (w : World) (h : SP w A n l) (hnc : n ≤ c) (hr : ∀ x ∈ l, Rng x) (hn : n ≤ 5000) (hd : dsum l ≤ 1000000000) (hb : BS w w.heap.size Ad m data) (hc : m ≤ cd) (hm : m ≤ 4096) :
    Calls Tryd.prog 54 #[.slice A n c, .slice Ad m cd] w (ShRet w l data) := by
  have hok : Oks 1 0 (tells [] data) := (Oks.nil 1 0).tells
  have hrp := hok.rng (by omega)
  have hdp := hok.dsum
  have hlp := tells_len data []
  rw [hb.1] at hlp
  simp only [List.length_nil] at hlp
  have hpd : dsum (tells [] data) ≤ 1000000000 := by omega
  have hlw := wrP_len l
  have hlw2 := wrP_len (tells [] data)
  have HP := Lib.hid (And.intro hrp (And.intro hpd hlp))
  have hll := h.1
  obtain ⟨P, hP⟩ : ∃ P, P = ShRet w l data := ⟨_, rfl⟩
  rw [← hP]
  obtain ⟨x, hx⟩ : ∃ x, x = (Gr.wrP l).length := ⟨_, rfl⟩
  obtain ⟨y, hy⟩ : ∃ y, y = (Gr.wrP (tells [] data)).length := ⟨_, rfl⟩
  have hsh : shortP l data = if x ≤ y then l else tells [] data := by rw [hx, hy]; rfl
  have hx1 : x ≤ 2000000000 := by omega
  have hy1 : y ≤ 2000000000 := by omega
  have HX := Lib.hid (And.intro hx (And.intro hy (And.intro hP hsh)))
  have HR := Lib.hid (And.intro hr hd)
  clear hx hy hP hsh hok hrp hdp hlp hpd hlw hlw2 hll hr hd
  have hpa := rplain_any Ad m cd data w hb (by omega)
  by_cases hxy : x ≤ y
  · have z1 : decide ((y : Int) < (x : Int)) = false := by simp; omega
    have z2 : decide (y < x) = false := by simp; omega
    have HXY := Lib.hid hxy
    clear hxy
    go_enter Tryd.func54, Tryd.ntmps54
    go_wp2_with fail
    refine hpa.mono ?_
    rintro e w1 ⟨⟨A1, n1, c1, rfl, hc1, hso1⟩, hb1⟩
    have hsp1 := hso1.sp
    have hn1 : n1 ≤ 1000000 := by have := hso1.len; have := HP.out.2.2; omega
    clear hso1
    go_wp2_with fail
    refine (rwrite_any A n c l w1 (h.below hb1) HR.out.1 (by omega) HR.out.2).mono ?_
    rintro e w2 ⟨A2, c2, rfl, -, hb2⟩
    rw [← HX.out.1]
    have hb12 := hb1.trans (hb2.mono hb1.size)
    go_wp2_with fail
    refine (rwrite_any A1 n1 c1 (tells [] data) w2 (hsp1.below hb2) HP.out.1 hn1 HP.out.2.1).mono ?_
    rintro e w3 ⟨A3, c3, rfl, -, hb3⟩
    rw [← HX.out.2.1]
    have hb13 := hb12.trans (hb3.mono hb12.size)
    go_wp2_with fail
    rw [HX.out.2.2.1]
    exact ⟨⟨A, n, c, rfl, hnc, by rw [HX.out.2.2.2, if_pos HXY.out]; exact h.below hb13⟩, hb13⟩
  · have z1 : decide ((y : Int) < (x : Int)) = true := by simp; omega
    have z2 : decide (y < x) = true := by simp; omega
    have HXY := Lib.hid hxy
    clear hxy
    go_enter Tryd.func54, Tryd.ntmps54
    go_wp2_with fail
    refine hpa.mono ?_
    rintro e w1 ⟨⟨A1, n1, c1, rfl, hc1, hso1⟩, hb1⟩
    have hsp1 := hso1.sp
    have hn1 : n1 ≤ 1000000 := by have := hso1.len; have := HP.out.2.2; omega
    clear hso1
    go_wp2_with fail
    refine (rwrite_any A n c l w1 (h.below hb1) HR.out.1 (by omega) HR.out.2).mono ?_
    rintro e w2 ⟨A2, c2, rfl, -, hb2⟩
    rw [← HX.out.1]
    have hb12 := hb1.trans (hb2.mono hb1.size)
    go_wp2_with fail
    refine (rwrite_any A1 n1 c1 (tells [] data) w2 (hsp1.below hb2) HP.out.1 hn1 HP.out.2.1).mono ?_
    rintro e w3 ⟨A3, c3, rfl, -, hb3⟩
    rw [← HX.out.2.1]
    have hb13 := hb12.trans (hb3.mono hb12.size)
    go_wp2_with fail
    rw [HX.out.2.2.1]
    exact ⟨⟨A1, n1, c1, rfl, hc1, by rw [HX.out.2.2.2, if_neg HXY.out]; exact (hsp1.below hb2).below hb3⟩, hb13⟩
end Go.Proofs.YtmnanbcinfdbaaaDoor
end
