/- The walks of hunt.Count and of the example of chapter 18; conditions: none beyond their hypotheses. -/
import Derived.Test.YtmnanbcinfdbaaaDoorMgHr3
import Derived.Test.YtmnanbcinfdbaaaDoorMgSg6
import Derived.Test.YtmnanbcinfdbaaaDoorMgGr6
set_option linter.unusedSimpArgs false
set_option linter.unusedVariables false
section
namespace Go.Proofs.YtmnanbcinfdbaaaDoor
open Go.RowKit Go.Proofs.U
set_option linter.unusedVariables false
theorem zeroS' : (Tryd.prog.info? 68).map (fun i => (i.zero, i.size)) = some (some (.agg #[.int .i64 0, .int .i64 0, .int .i64 0, .slice none 0 0]), 4) := by kernel_rfl
theorem cc_take (l : List Gr.Stp) (k : Nat) (x : Gr.Stp) (h : l[k]? = some x) : ccS (l.take (k + 1)) = ccS (l.take k) + (if x.k = 1 then x.l else 0) ∧ ctS (l.take (k + 1)) = ctS (l.take k) + (if x.k = 1 then 0 else (x.d.length : Int)) := by
  rw [List.take_add_one, h]
  simp [ccS, ctS]
/-- steps whose sums stay small -/
def Few (l : List Gr.Stp) : Prop := ∀ x ∈ l, 0 ≤ x.l ∧ x.l ≤ 1099511627776 ∧ x.d.length ≤ 140737488355328
theorem cc_bd (l : List Gr.Stp) (h : Few l) : ∀ k, 0 ≤ ccS (l.take k) ∧ ccS (l.take k) ≤ 1099511627776 * k ∧ 0 ≤ ctS (l.take k) ∧ ctS (l.take k) ≤ 140737488355328 * k
  | 0 => by simp [ccS, ctS]
  | k + 1 => by
    have ih := cc_bd l h k
    rcases hx : l[k]? with _ | x
    · have : l.take (k + 1) = l.take k := by rw [List.take_add_one, hx]; simp
      rw [this]; omega
    · obtain ⟨h1, h2⟩ := cc_take l k x hx
      rw [h1, h2]
      obtain ⟨b1, b2, b3⟩ := h x (List.mem_of_getElem? hx)
      split <;> omega
def CntRet (w : World) (l : List Gr.Stp) (e : Ending) (w' : World) : Prop := e = .returned (.tuple #[.int .i64 (ccS l), .int .i64 (ctS l)]) ∧ Below w.heap.size w w'
set_option maxRecDepth 100000 in
set_option maxHeartbeats 4000000 in
theorem hcount_any (A : Option Addr) (n c : Nat) (l : List Gr.Stp) (w : World) (h : SP w A n l) (hn : n ≤ 5000) (hf : Few l) :
    Calls Tryd.prog 46 #[.slice A n c] w (CntRet w l) := by
  obtain ⟨hzS, _⟩ := Go.zero_of_info zeroS'
  have hll := h.1
  obtain ⟨R, hR⟩ : ∃ R, R = CntRet w l := ⟨_, rfl⟩
  rw [← hR]
  have HL := Lib.hid (And.intro hll (And.intro hf hR))
  clear hll hf hR
  go_enter Tryd.func46, Tryd.ntmps46
  go_wp2_with fail
  go_loopg [2, 3, 8] n (fun r a b i wr => ∃ k : Nat, r + k = n ∧ i = .int .i64 k ∧ a = .int .i64 (ccS (l.take k)) ∧ b = .int .i64 (ctS (l.take k)) ∧ Below w.heap.size w wr)
  case atStart => exact ⟨0, rfl, rfl, rfl, rfl, Below.refl _ _⟩
  case round =>
    obtain ⟨k, hgk, rfl, rfl, rfl, hbw⟩ := hrel
    have HGK := Lib.hid hgk
    obtain ⟨wo, rfl⟩ : ∃ wo : World, wo = wr := ⟨_, rfl⟩
    obtain ⟨o1, o2, o3, o4⟩ := cc_bd l HL.out.2.1 k
    by_cases hlt : k < n
    · clear hgk
      obtain ⟨b, off, x, A', c', rfl, hbl, hx, s0, s1, s2, s3, hcd, hbs⟩ := h.at_ hlt
      replace s0 := (hbw.cell (p := ⟨b, _, none⟩) hbl).trans s0
      replace s1 := (hbw.cell (p := ⟨b, _, none⟩) hbl).trans s1
      replace s2 := (hbw.cell (p := ⟨b, _, none⟩) hbl).trans s2
      replace s3 := (hbw.cell (p := ⟨b, _, none⟩) hbl).trans s3
      obtain ⟨ht1, ht2⟩ := cc_take l k x hx
      obtain ⟨b1, b2, b3⟩ := HL.out.2.1 x (List.mem_of_getElem? hx)
      obtain ⟨xk, xf, xl, xd⟩ := x
      simp only at s0 s1 s2 s3 hcd hbs ht1 ht2 b1 b2 b3
      generalize hLc : ccS (l.take k) = C at ht1 o1 o2 ⊢
      generalize hLt : ctS (l.take k) = T at ht2 o3 o4 ⊢
      have hw1 : IntKind.i64.wrap (C + xl) = C + xl := by rw [IntKind.wrap_i64]; omega
      have hw2 : IntKind.i64.wrap (T + (xd.length : Int)) = T + (xd.length : Int) := by rw [IntKind.wrap_i64]; omega
      have HT := Lib.hid (And.intro ht1 (And.intro ht2 hbs))
      clear ht1 ht2 hx hbs hLc hLt
      have hb1 : Below wo.heap.size wo (wo.alloc (.cells #[.int .i64 xk, .int .i64 xf, .int .i64 xl, .slice A' xd.length c'] 68)) := (Below.refl _ _).alloc (Nat.le_refl _) _
      have HB := Lib.hid hb1
      clear hb1
      by_cases hk : xk = 1
      · have z1 : decide (xk = 1) = true := by simpa using hk
        have z2 : (xk == 1) = true := by simpa using hk
        have HK := Lib.hid hk
        clear hk
        go_wp2_with fail
        go_roundg (gk - 1)
        case measure => have := HGK.out; omega
        case rel => exact ⟨k + 1, by have := HGK.out; omega, by go_num, by rw [HT.out.1, if_pos HK.out], by rw [HT.out.2.1, if_pos HK.out, Int.add_zero], hbw.trans (HB.out.mono hbw.size)⟩
      · have z1 : decide (xk = 1) = false := by simpa using hk
        have z2 : (xk == 1) = false := by simpa using hk
        go_wp2_with fail
        go_roundg (gk - 1)
        case measure => have := HGK.out; omega
        case rel => exact ⟨k + 1, by have := HGK.out; omega, by go_num, by rw [HT.out.1, if_neg hk, Int.add_zero], by rw [HT.out.2.1, if_neg hk], hbw.trans (HB.out.mono hbw.size)⟩
    · obtain rfl : k = n := by omega
      rw [List.take_of_length_le (by rw [HL.out.1]; omega)]
      go_wp2_with fail
      rw [HL.out.2.2]
      exact ⟨rfl, hbw⟩
/-- the example's steps -/
def ex18 : List Gr.Stp := [⟨2, 0, 1, [120]⟩, ⟨1, 0, 8, []⟩, ⟨2, 0, 2, [97, 98]⟩]
theorem ex18_eq : huntS [97, 98, 99, 100, 101, 102, 103, 104] [120, 97, 98, 99, 100, 101, 102, 103, 104, 97, 98] 4 11 0 [] = ex18 := by decide +kernel
theorem ex18_cc : ccS ex18 = 8 ∧ ctS ex18 = 3 := by decide
theorem ex18_few : Few ex18 := by
  intro x hx
  simp only [ex18, List.mem_cons, List.not_mem_nil, or_false] at hx
  rcases hx with rfl | rfl | rfl <;> simp
set_option maxRecDepth 100000 in
set_option maxHeartbeats 4000000 in
theorem lives18 (w : World) (hT : Tabs w) : Calls Tryd.prog 44 #[] w (Yes w) := by
  obtain ⟨base, hbase⟩ : ∃ b : List UInt8, b = [97, 98, 99, 100, 101, 102, 103, 104] := ⟨_, rfl⟩
  obtain ⟨data, hdata⟩ : ∃ b : List UInt8, b = [120, 97, 98, 99, 100, 101, 102, 103, 104, 97, 98] := ⟨_, rfl⟩
  have hf := ex18_eq
  rw [← hbase, ← hdata] at hf
  have kc := fun (w : World) (C : Array Value) (n c : Nat) => Lib.run_convert_bytes_const (P := Tryd.prog) w 22 5 C n c Tryd.underlying22 Tryd.underlying5
  have HB := Lib.hid (And.intro hbase (And.intro hdata hf))
  clear hbase hdata hf
  go_enter Tryd.func44, Tryd.ntmps44
  go_wp2_with fail
  have hb0 : Below w.heap.size w (w.alloc (.cells (([97, 98, 99, 100, 101, 102, 103, 104] : List UInt8).map bv).toArray 5 (8, 9))) := (Below.refl _ _).alloc (Nat.le_refl _) _
  have hbs0 : BS (w.alloc (.cells (([97, 98, 99, 100, 101, 102, 103, 104] : List UInt8).map bv).toArray 5 (8, 9))) (w.alloc (.cells (([97, 98, 99, 100, 101, 102, 103, 104] : List UInt8).map bv).toArray 5 (8, 9))).heap.size (some ⟨w.heap.size, 0, none⟩) 8 base := by rw [HB.out.1]; exact BS.fresh w 5 [97, 98, 99, 100, 101, 102, 103, 104] (8, 9)
  refine (of_any (some ⟨w.heap.size, 0, none⟩) 8 8 4 base (w.alloc (.cells (([97, 98, 99, 100, 101, 102, 103, 104] : List UInt8).map bv).toArray 5 (8, 9))) hbs0 (by omega) (by omega) (by omega) (by omega) (hT.stay hb0)).mono ?_
  rintro e w1 ⟨rfl, htab, hb1⟩
  have htt := Tt.of hbs0 (by omega) (by omega) (by omega) (by omega) htab hb1
  have hbw1 := hb0.trans (hb1.mono hb0.size)
  generalize (w.alloc (.cells (([97, 98, 99, 100, 101, 102, 103, 104] : List UInt8).map bv).toArray 5 (8, 9))).heap.size = N at htt ⊢
  generalize (some (⟨w.heap.size, 0, none⟩ : Addr)) = Ab at htt ⊢
  clear htab hb1 hbs0 hb0
  go_wp2_with fail
  have hba : Below w1.heap.size w1 (w1.alloc (.cells (([120, 97, 98, 99, 100, 101, 102, 103, 104, 97, 98] : List UInt8).map bv).toArray 5 (11, 12))) := (Below.refl _ _).alloc (Nat.le_refl _) _
  have hbsa : BS (w1.alloc (.cells (([120, 97, 98, 99, 100, 101, 102, 103, 104, 97, 98] : List UInt8).map bv).toArray 5 (11, 12))) (w1.alloc (.cells (([120, 97, 98, 99, 100, 101, 102, 103, 104, 97, 98] : List UInt8).map bv).toArray 5 (11, 12))).heap.size (some ⟨w1.heap.size, 0, none⟩) 11 data := by rw [HB.out.2.1]; exact BS.fresh w1 5 [120, 97, 98, 99, 100, 101, 102, 103, 104, 97, 98] (11, 12)
  have hbw2 := hbw1.trans (hba.mono hbw1.size)
  refine (hsteps_any _ _ _ _ 8 8 base 4 (some ⟨w1.heap.size, 0, none⟩) 11 11 data (w1.alloc (.cells (([120, 97, 98, 99, 100, 101, 102, 103, 104, 97, 98] : List UInt8).map bv).toArray 5 (11, 12))) (htt.stay hba) (hT.stay hbw2) hbsa (by omega) (by omega)).mono ?_
  rintro e w3 ⟨⟨A3, n3, c3, rfl, hc3, hso⟩, hb3⟩
  rw [HB.out.2.2] at hso
  have hbw3 := hbw2.trans (hb3.mono hbw2.size)
  have hsp := hso.sp
  have hn3 := hsp.1
  obtain rfl : n3 = 3 := hn3.symm
  clear hba hbsa hbw2 hb3 hn3 htt
  go_wp2_with fail
  refine (hcount_any A3 3 c3 ex18 w3 hsp (by omega) ex18_few).mono ?_
  rintro e w4 ⟨rfl, hb4⟩
  rw [ex18_cc.1, ex18_cc.2]
  have hsp4 := hsp.below hb4
  have hbw4 := hbw3.trans (hb4.mono hbw3.size)
  obtain ⟨b, off, hA, hbl, hcell⟩ := hsp4.2 (by omega)
  subst hA
  obtain ⟨A1, c1, p0, p1, p2, p3, _⟩ := hcell 1 ⟨1, 0, 8, []⟩ rfl
  obtain ⟨A2, c2, q0, q1, q2, q3, _, hbs⟩ := hcell 2 ⟨2, 0, 2, [97, 98]⟩ rfl
  have hst := run_str hbs 22 5 9 Tryd.underlying22 Tryd.underlying5 Tryd.underlying9 c2
  simp only [List.length_cons, List.length_nil, Nat.reduceAdd] at q3 hst
  clear hcell hbs hsp hsp4 hb4 hso hbw3 hbw1
  go_wp2_with fail
  go_ret
  exact ⟨rfl, hbw4⟩
end Go.Proofs.YtmnanbcinfdbaaaDoor
end
