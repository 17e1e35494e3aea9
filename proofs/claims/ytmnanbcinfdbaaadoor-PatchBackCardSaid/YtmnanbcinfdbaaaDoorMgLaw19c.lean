/- DeltaShort; conditions: none beyond its hypotheses. -/
import Derived.Test.YtmnanbcinfdbaaaDoorMgShr
set_option linter.unusedSimpArgs false
set_option linter.unusedVariables false
section
namespace Go.Proofs.YtmnanbcinfdbaaaDoor
open Go.RowKit Go.Proofs.U
set_option linter.unusedVariables false
theorem short_oks {l : List Gr.Stp} {data : List UInt8} {s nb : Nat} (h : Oks s nb l) : Oks s nb (shortP l data) := by
  unfold shortP
  split
  · exact h
  · exact (Oks.nil s nb).tells
theorem short_out {base data : List UInt8} {l : List Gr.Stp} (h : outL base l = data) : outL base (shortP l data) = data := by
  unfold shortP
  split
  · exact h
  · rw [outL_tells]; rfl
theorem short_n (l : List Gr.Stp) (data : List UInt8) (k : Nat) (h : l.length ≤ k) (h2 : data.length ≤ k) : (shortP l data).length ≤ k := by
  unfold shortP
  split
  · exact h
  · have := tells_len data []; simp only [List.length_nil] at this; omega
theorem dsum_le_out {base : List UInt8} {s : Nat} : ∀ {l : List Gr.Stp}, Oks s base.length l → dsum l ≤ (outL base l).length
  | [], _ => Nat.le_refl _
  | x :: l, h => by
    have ih := dsum_le_out (fun y hy => h y (List.mem_cons_of_mem _ hy) : Oks s base.length l)
    have e : dsum (x :: l) = x.d.length + dsum l := by simp [dsum]
    have e1 : outL base (x :: l) = outS base x ++ outL base l := by simp [outL]
    rw [e, e1, List.length_append]
    rcases h x (List.mem_cons_self) with ⟨a, b, rfl, _, _⟩ | ⟨d, rfl, _, h2⟩
    · simp only [List.length_nil]; omega
    · have : outS base ⟨2, 0, (d.length : Int), d⟩ = d := by unfold outS; rw [if_neg (by simp)]
      rw [this]; simp only; omega
set_option maxRecDepth 100000 in
set_option maxHeartbeats 8000000 in
theorem deltaShort_any (A : Option Addr) (n c : Nat) (l : List Gr.Stp) (Ab : Option Addr) (nb cb : Nat) (base : List UInt8) (Ad : Option Addr) (m cd : Nat) (data : List UInt8) (sz : UInt8) (w : World) (h : SP w A n l) (hr : ∀ x ∈ l, Rng x) (hbd : ∀ x ∈ l, x.d.length ≤ 140737488355328) (hn : n ≤ maxLen) (hnc : n ≤ c)
    (hb : BS w w.heap.size Ab nb base) (hm : nb ≤ maxLen) (hc : nb ≤ cb) (hb' : BS w w.heap.size Ad m data) (hm' : m ≤ maxLen) (hc' : m ≤ cd) (hT : Tabs w) :
    Calls Tryd.prog 14 #[.slice A n c, .slice Ab nb cb, .slice Ad m cd, .int .u8 (sz.toNat : Int)] w (Yes w) := by
  have hli := light_any A n c l w h hbd hn
  have HR := Lib.hid hr
  clear hr hbd
  have hlv := fun w' => lives19 w'
  go_enter Tryd.func14, Tryd.ntmps14
  go_wp2_with fail
  refine hli.mono ?_
  rintro e w1 ⟨r, rfl, hr1, hb1⟩
  have h1 := h.below hb1
  have hbb1 := hb.below hb1
  have hbd1 := hb'.below hb1
  have hz1 := hb1.size
  clear hli h hb hb'
  cases r
  · go_wp2_with fail
    refine (hlv w1).mono ?_
    rintro e w2 ⟨rfl, hb2⟩
    go_wp2_with fail
    go_ret
    exact ⟨rfl, hb1.trans (hb2.mono hz1)⟩
  obtain ⟨hn3, hds⟩ := hr1 rfl
  clear hr1
  by_cases c1 : 4096 < nb
  · have u1 : decide (4096 < (nb : Int)) = true := by simp; omega
    have v1 : decide (4096 < nb) = true := by simp; omega
    clear c1
    go_wp2_with fail
    refine (hlv w1).mono ?_
    rintro e w2 ⟨rfl, hb2⟩
    go_wp2_with fail
    go_ret
    exact ⟨rfl, hb1.trans (hb2.mono hz1)⟩
  have u1 : decide (4096 < (nb : Int)) = false := by simp; omega
  have v1 : decide (4096 < nb) = false := by simp; omega
  by_cases c2 : 4096 < m
  · have u2 : decide (4096 < (m : Int)) = true := by simp; omega
    have v2 : decide (4096 < m) = true := by simp; omega
    clear c1 c2
    go_wp2_with fail
    refine (hlv w1).mono ?_
    rintro e w2 ⟨rfl, hb2⟩
    go_wp2_with fail
    go_ret
    exact ⟨rfl, hb1.trans (hb2.mono hz1)⟩
  have u2 : decide (4096 < (m : Int)) = false := by simp; omega
  have v2 : decide (4096 < m) = false := by simp; omega
  have hn4 : nb ≤ 4096 := by omega
  have hm4 : m ≤ 4096 := by omega
  have hbl := hbb1.1
  have hdl := hbd1.1
  obtain ⟨s, hs⟩ : ∃ s : Nat, s = 4 + sz.toNat % 61 := ⟨_, rfl⟩
  have hs4 : 4 ≤ s := by omega
  have hs64 : s ≤ 64 := by omega
  have hw1 : IntKind.i64.wrap (sz.toNat : Int) = (sz.toNat : Int) := by have := sz.toNat_lt; rw [IntKind.wrap_i64]; omega
  have hq1 : ((sz.toNat : Int)).tmod 61 = ((sz.toNat % 61 : Nat) : Int) := by simp [Int.tmod_eq_emod_of_nonneg]
  have hw2 : IntKind.i64.wrap (((sz.toNat % 61 : Nat) : Int)) = ((sz.toNat % 61 : Nat) : Int) := by rw [IntKind.wrap_i64]; omega
  have hw3 : IntKind.i64.wrap (4 + ((sz.toNat % 61 : Nat) : Int)) = (s : Int) := by rw [IntKind.wrap_i64]; omega
  obtain ⟨y, hy⟩ : ∃ y, y = sz.toNat % 61 := ⟨_, rfl⟩
  rw [← hy] at hq1 hw2 hw3
  have HB := Lib.hid (And.intro hbl (And.intro hdl hs))
  clear c1 c2 hbl hdl hs hy
  go_wp2_with fail
  refine (dshort_any A n c l Ad m cd data w1 h1 hnc HR.out (by omega) (by omega) (hbd1.more hz1) hc' hm4).mono ?_
  rintro e w2 ⟨⟨A2, n2, c2, rfl, hc2, hsp2⟩, hb2⟩
  have hbw2 := hb1.trans (hb2.mono hz1)
  have h2 := h1.below hb2
  have hbd2 := hbd1.below (hb2.mono hz1)
  go_wp2_with fail
  refine (rshort_any A n c l Ad m cd data w2 h2 hnc HR.out (by omega) (by omega) (hbd2.more hbw2.size) hc' hm4).mono ?_
  rintro e w3 ⟨⟨A3, n3, c3, rfl, hc3, hsp3⟩, hb3⟩
  have hbw3 := hbw2.trans (hb3.mono hbw2.size)
  have hn2 : n2 ≤ 1000000000 := by have := hsp2.1; have := short_n l data 5000 (by rw [h1.1]; omega) (by rw [HB.out.2.1]; omega); omega
  have hsp2' := hsp2.below hb3
  have hbd3 := hbd2.below (hb3.mono hbw2.size)
  clear h2 hsp2
  go_wp2_with fail
  refine (rsame_eq A2 A3 n2 n3 c2 c3 _ w3 hsp2' hsp3 hn2).mono ?_
  rintro e w4 ⟨rfl, hd4⟩
  have hb4 : Below w3.heap.size w3 w4 := hd4.below _
  have hbw4 := hbw3.trans (hb4.mono hbw3.size)
  have hbd4 := hbd3.below (hb4.mono hbw3.size)
  have hb14 := (hb2.trans (hb3.mono hb2.size)).trans (hb4.mono (Nat.le_trans hb2.size hb3.size))
  have hbb4 := hbb1.below (hb14.mono hz1)
  clear hsp2' hsp3 hd4 h1 hn2 hc2 hc3 hds hn3
  go_wp2_with fail
  refine (of_any Ab nb cb s base w4 (hbb4.more hbw4.size) hc hn4 hs4 hs64 (hT.stay hbw4)).mono ?_
  rintro e w5 ⟨rfl, htab, hb5⟩
  have htt := Tt.of (hbb4.more hbw4.size) hc hn4 hs4 hs64 htab hb5
  have hbw5 := hbw4.trans (hb5.mono hbw4.size)
  have hbd5 := hbd4.below (hb5.mono hbw4.size)
  generalize w4.heap.size + 1 = G at htt ⊢
  clear htab
  go_wp2_with fail
  refine (hsteps_any G _ _ _ nb cb base s Ad m cd data w5 htt (hT.stay hbw5) (hbd5.more hbw5.size) hc' (by omega)).mono ?_
  rintro e w6 ⟨⟨A6, n6, c6, rfl, hc6, hso6⟩, hb6⟩
  have hbw6 := hbw5.trans (hb6.mono hbw5.size)
  have hbd6 := hbd5.below (hb6.mono hbw5.size)
  have hsp6 := hso6.sp
  have hlen6 := hunt_len (base := base) (data := data) (s := s) (F := m) (a := 0) (l := [])
  simp only [List.length_nil, Nat.zero_add] at hlen6
  have hok6 : Oks s base.length (huntS base data s m 0 []) := Oks.hunt (by omega) (Oks.nil _ _)
  have hout6 := outL_hunt (base := base) (data := data) (s := s) (by omega) (F := m) (a := 0) (l := []) (Oks.nil _ _) rfl (by rw [HB.out.2.1]; omega)
  obtain ⟨L, hL⟩ : ∃ L, L = huntS base data s m 0 [] := ⟨_, rfl⟩
  rw [← hL] at hsp6 hlen6 hok6 hout6
  have HL := Lib.hid (And.intro hok6 (And.intro hout6 hlen6))
  clear hL hso6 htt hok6 hout6 hlen6
  have hn6 : n6 ≤ 5000 := by have := hsp6.1; have := HL.out.2.2; omega
  go_wp2_with fail
  refine (dshort_any A6 n6 c6 L Ad m cd data w6 hsp6 hc6 (HL.out.1.rng (by rw [HB.out.1]; omega)) hn6 (by have := HL.out.1.dsum; have := HL.out.2.2; omega) (hbd6.more hbw6.size) hc' hm4).mono ?_
  rintro e w7 ⟨⟨A7, n7, c7, rfl, hc7, hsp7⟩, hb7⟩
  have hbw7 := hbw6.trans (hb7.mono hbw6.size)
  have hok7 : Oks s base.length (shortP L data) := short_oks HL.out.1
  have hout7 : outL base (shortP L data) = data := short_out HL.out.2.1
  have hlen7 := short_n L data 4096 (by have := HL.out.2.2; omega) (by rw [HB.out.2.1]; omega)
  have hwl := short_len L data (by rw [HB.out.2.1]; omega)
  have hck := check_ok hok7 (by rw [HB.out.1]; omega) (by omega) (by rw [hout7, HB.out.2.1]; omega)
  have hal := hok7.all (by rw [HB.out.1]; omega) (by omega)
  have hsu := hok7.lsum
  rw [hout7, HB.out.2.1] at hsu
  rw [HB.out.1] at hck hal
  generalize shortP L data = Q at hsp7 hok7 hout7 hlen7 hwl hck hal hsu
  have hn7 : n7 ≤ 5000 := by have := hsp7.1; omega
  have hrg := hok7.rng (by rw [HB.out.1]; omega)
  have hds7 := dsum_le_out hok7
  rw [hout7, HB.out.2.1] at hds7
  obtain ⟨X, hX⟩ : ∃ X, X = (Gr.wrP Q).length := ⟨_, rfl⟩
  have hX1 : X ≤ 8300 := by rw [hX]; exact hwl
  have y1 : decide ((X : Int) ≤ 8300) = true := by simp; omega
  have y2 : decide (X ≤ 8300) = true := by simp; omega
  have HQ := Lib.hid (And.intro hX (And.intro hck (And.intro hal (And.intro hsu (And.intro hrg hds7)))))
  clear hX hck hal hsu hrg hds7 hwl hout7 hok7 hsp6
  go_wp2_with fail
  refine (dwrite_any A7 n7 c7 Q w7 hsp7 HQ.out.2.2.2.2.1 (by omega) (by have := HQ.out.2.2.2.2.2; omega)).mono ?_
  rintro e w8 ⟨A8, c8, rfl, -, hb8⟩
  rw [← HQ.out.1]
  have hsp8 := hsp7.below hb8
  have hbw8 := hbw7.trans (hb8.mono hbw7.size)
  clear hsp7
  go_wp2_with fail
  refine (dcheck_any A7 n7 c7 Q (nb : Int) w8 hsp8 HQ.out.2.2.2.2.1 hn7 (by have := HQ.out.2.2.2.2.2; omega) ⟨by omega, by omega⟩).mono ?_
  rintro e w9 ⟨rfl, hb9⟩
  rw [HQ.out.2.1]
  have hsp9 := hsp8.below hb9
  have hbw9 := hbw8.trans (hb9.mono hbw8.size)
  clear hsp8
  go_wp2_with fail
  refine (dout_any A7 n7 c7 Q (nb : Int) w9 hsp9 hn7 (by omega) HQ.out.2.2.1).mono ?_
  rintro e w10 ⟨rfl, hb10⟩
  rw [HQ.out.2.2.2.1]
  have hbw10 := hbw9.trans (hb10.mono hbw9.size)
  clear hsp9
  go_wp2_with fail
  refine (hlv w10).mono ?_
  rintro e w11 ⟨rfl, hb11⟩
  go_wp2_with fail
  go_ret
  exact ⟨rfl, hbw10.trans (hb11.mono hbw10.size)⟩
end Go.Proofs.YtmnanbcinfdbaaaDoor
end
