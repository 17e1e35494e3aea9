/- The walks of the small functions of the statements of layer 14: Same on slices of bytes, light; conditions: none beyond their hypotheses. -/
import Derived.Test.YtaaajmonabhdgaaDoorSs
import Derived.Test.YtaaajmonabhdgaaDoorSl
import Derived.Test.YtaaajmonabhdgaaDoorReg
namespace Go.Proofs.YtaaajmonabhdgaaDoor
open Go.RowKit Go.Proofs.U
set_option linter.unusedVariables false

def Quiet (v : Value) (w : World) (e : Ending) (w' : World) : Prop := e = .returned v ∧ Drawn w w'

set_option maxHeartbeats 1000000 in
theorem samess_any (A : Option Addr) (n c : Nat) (A' : Option Addr) (c' : Nat) (o : List (List UInt8)) (lo lo' B B' : Nat) (w : World) (h : SS w lo B A n o) (h' : SS w lo' B' A' n o) (hn : n ≤ 140737488355328) :
    Calls Tryd.prog 35 #[.slice A n c, .slice A' n c'] w (Quiet (.bool true) w) := by
  go_enter Tryd.func35, Tryd.ntmps35
  go_wp2_with fail
  go_loopw [5] (fun i wr => ∃ k : Nat, k ≤ n ∧ i = .int .i64 k ∧ Drawn w wr) (fun i _ => n - (intOf i).toNat)
  case atStart => exact ⟨0, Nat.zero_le _, rfl, Drawn.refl _⟩
  case round =>
    obtain ⟨k, hk, rfl, hd⟩ := hrel
    obtain ⟨wo, rfl⟩ : ∃ wo : World, wo = wr := ⟨_, rfl⟩
    by_cases hlt : k < n
    · obtain ⟨b, off, bs, A1, c1, rfl, _, hx, hcell, _, hb1, _⟩ := h.at_ hlt
      obtain ⟨b', off', bs', A2, c2, rfl, _, hx', hcell', _, hb2, _⟩ := h'.at_ hlt
      obtain rfl : bs = bs' := Option.some.inj (hx.symm.trans hx')
      have hr1 : ∀ w', Drawn w w' → (convert 23 9 (.slice A1 bs.length c1)).run Tryd.prog w' = .ok (.string (strOf bs)) w' := fun w' hw => run_str (hw.bs hb1) 23 5 9 Tryd.underlying23 Tryd.underlying5 Tryd.underlying9 c1
      have hr2 : ∀ w', Drawn w w' → (convert 23 9 (.slice A2 bs.length c2)).run Tryd.prog w' = .ok (.string (strOf bs)) w' := fun w' hw => run_str (hw.bs hb2) 23 5 9 Tryd.underlying23 Tryd.underlying5 Tryd.underlying9 c2
      have HR := Lib.hid (And.intro hr1 hr2)
      have HX := Lib.hid (And.intro hx hx')
      have HC := Lib.hid (And.intro hcell hcell')
      clear hr1 hr2 hx hx' hcell hcell'
      go_wp2_with fail
      refine wp_region_class (C := fun w' => Drawn w w') (by kernel_rfl) (by kernel_rfl) (hd.trans (Drawn.one _)) ?_
      repeat
        (refine wpQuiet_step (fun K hK => ?_)
         rw [if_pos (by rfl)]
         apply Exists.intro
         refine ⟨fun w' hw' => ?_, hK _ ?_⟩
         · have e1 := HR.out.1 w' hw'
           have e2 := HR.out.2 w' hw'
           have e3 := (hw'.cell _).trans HC.out.1
           have e4 := (hw'.cell _).trans HC.out.2
           go_simp
           first
             | done
             | rfl
         clear hK K
         go_simp)
      refine wpQuiet_nil ?_
      intro w1 hw1
      go_wp2_with fail
      go_roundw
      case rel => exact ⟨k + 1, by omega, by go_num, hw1⟩
      case measure => simp [intOf]; omega
    · go_wp2_with fail
      go_ret
      exact ⟨rfl, hd⟩

def total (o : List (List UInt8)) : Nat := (o.map List.length).sum
theorem total_snoc (o : List (List UInt8)) (k : Nat) (bs : List UInt8) (h : o[k]? = some bs) : total (o.take (k + 1)) = total (o.take k) + bs.length := by
  unfold total
  rw [List.take_add_one, h]
  simp
theorem mem_total {o : List (List UInt8)} {k : Nat} {bs : List UInt8} (h : o[k]? = some bs) : bs.length ≤ total o := by
  have hm := List.mem_of_getElem? h
  clear h
  unfold total
  induction o with
  | nil => simp at hm
  | cons a o ih =>
    simp only [List.map_cons, List.sum_cons]
    rcases List.mem_cons.1 hm with h | h
    · subst h; omega
    · have := ih h; omega
theorem total_le (o : List (List UInt8)) (B k : Nat) (h : ∀ bs ∈ o, bs.length ≤ B) : total (o.take k) ≤ k * B := by
  induction k with
  | zero => simp [total]
  | succ k ih =>
    rw [Nat.succ_mul]
    cases hk : o[k]? with
    | none => rw [List.take_add_one, hk]; simp only [Option.toList_none, List.append_nil]; omega
    | some bs => rw [total_snoc o k bs hk]; have := h bs (List.mem_of_getElem? hk); omega

set_option maxRecDepth 100000 in
set_option maxHeartbeats 1000000 in
theorem light_few (A : Option Addr) (n c : Nat) (o : List (List UInt8)) (lo B : Nat) (w : World) (h : SS w lo B A n o) (hbd : ∀ bs ∈ o, bs.length ≤ 140737488355328) (hn : n ≤ 200) (b : Bool) (hb : decide (total o ≤ 10000) = b) :
    Calls Tryd.prog 38 #[.slice A n c] w fun e w' => e = .returned (.bool b) ∧ w = w' := by
  have HB := Lib.hid hb
  clear hb
  have hl := h.1
  have HL := Lib.hid hl
  clear hl
  go_enter Tryd.func38, Tryd.ntmps38
  go_wp2_with fail
  go_loop [3, 8] (fun s i => ∃ k : Nat, k ≤ n ∧ i = .int .i64 k ∧ s = .int .i64 (total (o.take k))) (fun _ i => n - (intOf i).toNat)
  case atStart => exact ⟨0, Nat.zero_le _, rfl, rfl⟩
  case round =>
    obtain ⟨k, hk, rfl, rfl⟩ := hrel
    have ht := total_le o _ k hbd
    have hk2 : k ≤ 200 := by omega
    by_cases hlt : k < n
    · obtain ⟨b0, off, bs, A1, c1, rfl, _, hx, hcell, _, _, _⟩ := h.at_ hlt
      have hbl := hbd bs (List.mem_of_getElem? hx)
      have hs := total_snoc o k bs hx
      have HS := Lib.hid hs
      have HX := Lib.hid hx
      have ht2 : total (o.take k) ≤ 28147497671065600 := Nat.le_trans ht (Nat.le_trans (Nat.mul_le_mul_right _ hk2) (by decide))
      clear hs hx ht
      go_wp2_with fail
      go_round
      case rel => exact ⟨k + 1, by omega, by go_num, by rw [HS.out]; go_num⟩
      case measure => simp [intOf]; omega
    · have hkn : k = n := by omega
      have hto : total (o.take k) = total o := by rw [List.take_of_length_le (by rw [HL.out]; omega)]
      rw [hto]
      have hg : decide ((total o : Int) ≤ 10000) = b := by rw [← HB.out]; simp; omega
      clear hto ht
      cases b
      all_goals
        go_wp2_with fail
        go_ret
        exact ⟨rfl, rfl⟩
set_option maxHeartbeats 1000000 in
theorem light_many (A : Option Addr) (n c : Nat) (o : List (List UInt8)) (lo B : Nat) (w : World) (h : SS w lo B A n o) (hn : 200 < n) (hm : n ≤ 9223372036854775807) :
    Calls Tryd.prog 38 #[.slice A n c] w fun e w' => e = .returned (.bool false) ∧ w = w' := by
  have hg : decide ((n : Int) ≤ 200) = false := by simp; omega
  go_enter Tryd.func38, Tryd.ntmps38
  go_wp2_with fail
  go_loop [3, 8] (fun s i => ∃ (k : Nat) (z : Int), k ≤ n ∧ i = .int .i64 k ∧ s = .int .i64 z) (fun _ i => n - (intOf i).toNat)
  case atStart => exact ⟨0, 0, Nat.zero_le _, rfl, rfl⟩
  case round =>
    obtain ⟨k, z, hk, rfl, rfl⟩ := hrel
    by_cases hlt : k < n
    · obtain ⟨b0, off, bs, A1, c1, rfl, _, hx, hcell, _, _, _⟩ := h.at_ hlt
      clear hx
      go_wp2_with fail
      go_round
      case rel => exact ⟨k + 1, _, by omega, by go_num, rfl⟩
      case measure => simp [intOf]; omega
    · go_wp2_with fail
      go_ret
      exact ⟨rfl, rfl⟩
end Go.Proofs.YtaaajmonabhdgaaDoor
