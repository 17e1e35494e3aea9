/- The document's text of a fault, walked; conditions: none beyond their hypotheses. -/
import Derived.Test.YthhhiiagppckhaaDoorBe21
namespace Go.Proofs.YthhhiiagppckhaaDoor
open Go.RowKit Go.Proofs.U Go.Proofs.Bp
set_option linter.unusedVariables false

def pre (l : List (List UInt8)) : List UInt8 := (l.map (· ++ [58, 32])).flatten
theorem pre_snoc (l : List (List UInt8)) (x : List UInt8) : pre (l ++ [x]) = pre l ++ (x ++ [58, 32]) := by simp [pre]
theorem pre_len (l : List (List UInt8)) (h : ∀ s ∈ l, s.length ≤ 101) : (pre l).length ≤ l.length * 103 := by
  induction l with
  | nil => simp [pre]
  | cons x r ih =>
    have := ih fun s hs => h s (List.mem_cons_of_mem _ hs)
    have := h x List.mem_cons_self
    unfold pre at *
    simp only [List.map_cons, List.flatten_cons, List.length_append, List.length_cons, List.length_nil] at *
    omega
theorem joinTail_pre (r : List (List UInt8)) (x y : List UInt8) : x ++ Lib.joinTail [58, 32] (r ++ [y]) = pre (x :: r) ++ y := by
  induction r generalizing x with
  | nil => simp [Lib.joinTail, pre]
  | cons z r ih =>
    have := ih z
    unfold Lib.joinTail pre at *
    simp only [List.map_cons, List.cons_append, List.flatten_cons, List.append_assoc] at *
    rw [this]
theorem join_pre (l : List (List UInt8)) (y : List UInt8) : Lib.join (l ++ [y]) [58, 32] = pre l ++ y := by
  cases l with
  | nil => simp [Lib.join_one, pre]
  | cons x r => rw [List.cons_append, Lib.join_cons, joinTail_pre]

set_option maxRecDepth 100000 in
set_option maxHeartbeats 8000000 in
theorem rtext_any (A : Option Addr) (m c : Nat) (l : List Flt) (i : Int) (w : World) (hm : m ≤ 10) (hi : -9223372036854775808 ≤ i ∧ i ≤ 9223372036854775807) (h : FS w A m l) (hc : m ≤ c) (hr : ∀ x ∈ l, RngF x) (hok : ∀ x ∈ l, FOk x)
    (t : Er) (ht : atE (madeE l) i = t) (hn : t.ok) (hgd : Bp.Good 10 t) (hcb : -1000 ≤ first0 t.codes ∧ first0 t.codes ≤ 1000) :
    Calls Tryd.prog 29 #[.slice A m c, .int .i64 i] w (TextRet w (textOf t)) := by
  have hcod := rcodes_any A m c l i w hm hi h hc hr hok
  have hstp := fun w' (hb : Below w.heap.size w w') => rsteps_any A m c l i w' hm hi (h.below hb) hc hr hok
  rw [ht] at hcod
  simp only [ht] at hstp
  have hse := steps_each (lt_iff t hgd.lt)
  have hsl : t.steps.length ≤ 1000000 := Nat.le_trans (steps_len t) (good_siz hgd (by omega))
  have hcs := Er.ok_codes hn
  unfold textOf
  rw [join_pre]
  obtain ⟨S, hS⟩ : ∃ S, S = t.steps := ⟨_, rfl⟩
  obtain ⟨C, hC⟩ : ∃ C, C = t.codes := ⟨_, rfl⟩
  rw [← hS] at hstp hse hsl
  rw [← hC] at hcod hcs hcb
  rw [← hS, ← hC]
  obtain ⟨x0, r0, rfl⟩ : ∃ x r, C = x :: r := by
    cases C with
    | nil => exact absurd rfl hcs
    | cons x r => exact ⟨x, r, rfl⟩
  have hx0 : first0 (x0 :: r0) = x0 := rfl
  rw [hx0] at hcb ⊢
  have hdg := fun w' => digits_any x0 hcb w'
  have hnl : (Lib.itoa x0).length ≤ 21 := Lib.itoa_length_le x0 (by omega) (by omega)
  obtain ⟨sd, hsd⟩ : ∃ sd, sd = strOf (Lib.itoa x0) := ⟨_, rfl⟩
  rw [← hsd] at hdg
  obtain ⟨RS, hRS⟩ : ∃ RS, RS = strOf (pre S ++ errText x0) := ⟨_, rfl⟩
  unfold TextRet
  rw [← hRS]
  have H := Lib.hid (And.intro hstp (And.intro hdg hse))
  have HD := Lib.hid (And.intro hsd (And.intro hRS hnl))
  have hlen0 : (0 : Nat) < (x0 :: r0).length := by simp
  clear hstp hdg hse hsd hRS hcs hnl hx0 hS hC ht hn hgd
  go_enter Tryd.func29, Tryd.ntmps29
  go_wp2_with fail
  refine hcod.mono ?_
  rintro e w1 ⟨A1, n1, c1, hn1, rfl, hown1, hb1⟩
  obtain ⟨g1, rfl, hx⟩ := hown1.at_ (k := 0) (x := cv x0) rfl
  have hn1p : 0 < n1 := by rw [hn1]; exact hlen0
  have dn1 : ((n1 : Int) == 0) = false := by simp; omega
  clear hn1 hlen0 hcod
  unfold cv at hx
  go_wp2_with fail
  refine (H.out.1 w1 hb1).mono ?_
  rintro e w2 ⟨A2, n2, c2, hn2, rfl, hown2, hb2⟩
  have hbw2 := hb1.trans (hb2.mono hb1.size)
  have hx2 := cell_below hx hb2
  have HN2 := Lib.hid hn2
  have hn2b : n2 ≤ 1000000 := by omega
  have hvs2 := hown2.vs
  clear hn2 hx
  go_wp2_with fail
  go_loopg [6, 8] n2 (fun r s i wr => ∃ (j : Nat) (ss : ByteArray), r + j = n2 ∧ i = .int .i64 (j : Int) ∧ s = .string ss ∧ ss = strOf (pre (S.take j)) ∧ wr = w2)
  case atStart => exact ⟨0, ⟨#[]⟩, rfl, rfl, rfl, rfl, rfl⟩
  case round =>
    obtain ⟨j, ss, hgk, rfl, rfl, hss, rfl⟩ := hrel
    have HJ := Lib.hid (And.intro hgk hss)
    clear hss
    by_cases hj : j < n2
    · clear hgk
      obtain ⟨y, hy⟩ : ∃ y, S[j]? = some y := ⟨S[j]'(by rw [← HN2.out]; exact hj), by simp⟩
      obtain ⟨b2, o2, rfl, hlt2, -⟩ := hvs2.2 (by omega)
      have cy := VS.nth hvs2 (k := j) (v := sv y) (by rw [List.getElem?_map, hy]; rfl)
      unfold sv at cy
      have hy101 := H.out.2.2 y (List.mem_of_getElem? hy)
      have hpl := pre_len (S.take j) (fun s hs => H.out.2.2 s (List.mem_of_mem_take hs))
      have hpl2 : (pre (S.take j)).length ≤ 103000000 := by
        refine Nat.le_trans hpl ?_
        have : (S.take j).length ≤ 1000000 := by rw [List.length_take]; omega
        have := Nat.mul_le_mul_right 103 this
        omega
      have hps := pre_snoc (S.take j) y
      rw [← take_succ_get S j y hy] at hps
      obtain ⟨sy, hsy⟩ : ∃ s, s = strOf y := ⟨_, rfl⟩
      obtain ⟨s1, hs1⟩ : ∃ s, s = strOf (pre (S.take j) ++ y) := ⟨_, rfl⟩
      obtain ⟨s2, hs2⟩ : ∃ s, s = strOf (pre (S.take (j + 1))) := ⟨_, rfl⟩
      rw [← hsy] at cy
      have x1 : ∀ w', (Op.stringOp .add ss sy).run Tryd.prog w' = .ok (.string s1) w' := fun w' => by
        rw [HJ.out.2, hsy, hs1, run_string_add_sum w' _ _ (by rw [strOf_sz, strOf_sz]; omega), strOf_app]
      have x2 : ∀ w', (Op.stringOp .add s1 ⟨#[58, 32]⟩).run Tryd.prog w' = .ok (.string s2) w' := fun w' => by
        rw [hs1, hs2, hps, run_string_add_sum w' _ _ (by rw [strOf_sz, List.length_append]; show _ + 2 ≤ _; omega), ← List.append_assoc]
        exact congrArg (fun z => Result.ok (Value.string z) w') (strOf_app _ [58, 32])
      have HS2 := Lib.hid hs2
      clear hy hy101 hpl hpl2 hps hsy hs1 hs2
      go_wp2_with fail
      go_roundg (gk - 1)
      case measure => have := HJ.out.1; omega
      case rel => exact ⟨j + 1, s2, by have := HJ.out.1; omega, by go_num, rfl, HS2.out, rfl⟩
    · obtain rfl : j = n2 := by omega
      clear hgk hj
      have hfull : ss = strOf (pre S) := by
        rw [HJ.out.2, List.take_of_length_le (by rw [← HN2.out]; exact Nat.le_refl _)]
      have hpl := pre_len S H.out.2.2
      have hpl2 : (pre S).length ≤ 103000000 := by
        refine Nat.le_trans hpl ?_
        have := Nat.mul_le_mul_right 103 hsl
        omega
      obtain ⟨s3, hs3⟩ : ∃ s, s = strOf (pre S ++ [101, 114, 114, 110, 111, 32]) := ⟨_, rfl⟩
      have x1 : ∀ w', (Op.stringOp .add ss ⟨#[101, 114, 114, 110, 111, 32]⟩).run Tryd.prog w' = .ok (.string s3) w' := fun w' => by
        rw [hfull, hs3, run_string_add_sum w' _ _ (by rw [strOf_sz]; show _ + 6 ≤ _; omega)]
        exact congrArg (fun z => Result.ok (Value.string z) w') (strOf_app _ [101, 114, 114, 110, 111, 32])
      have x2 : ∀ w', (Op.stringOp .add s3 sd).run Tryd.prog w' = .ok (.string RS) w' := fun w' => by
        have := HD.out.2.2
        rw [hs3, HD.out.1, HD.out.2.1, run_string_add_sum w' _ _ (by rw [strOf_sz, strOf_sz, List.length_append]; show _ + 6 + _ ≤ _; omega), strOf_app, List.append_assoc]
        rfl
      clear hfull hpl hpl2 hs3
      go_wp2_with fail
      refine (H.out.2.1 wr).mono ?_
      rintro e w5 ⟨rfl, rfl⟩
      go_wp2_with fail
      go_ret
      exact ⟨rfl, hbw2⟩
end Go.Proofs.YthhhiiagppckhaaDoor
