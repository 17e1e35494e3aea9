/- The walk of the reference of sha: the first primes; conditions: none beyond its hypotheses. -/
import Derived.Test.YtmnanbcinfdbaaaDoorRt4
namespace Go.Proofs.YtmnanbcinfdbaaaDoor
open Go.RowKit Go.Proofs.U
set_option linter.unusedVariables false

def noDiv (l : List Nat) (n : Nat) : Bool := !(l.any (fun q => n % q == 0))
theorem noDiv_snoc (l : List Nat) (n x : Nat) : noDiv (l ++ [x]) n = (noDiv l n && !(n % x == 0)) := by
  unfold noDiv; simp [List.any_append]
theorem pstep_no (l : List Nat) (n : Nat) (h : noDiv l n = true) : Rp.pstep l n = l ++ [n] := by
  unfold noDiv at h; unfold Rp.pstep
  rw [if_neg (by intro h2; rw [h2] at h; cases h)]
theorem pstep_yes (l : List Nat) (n : Nat) (h : noDiv l n = false) : Rp.pstep l n = l := by
  unfold noDiv at h; unfold Rp.pstep
  rw [if_pos (by simpa using h)]

set_option maxRecDepth 100000 in
set_option maxHeartbeats 8000000 in
theorem primes_any (w : World) : Calls Tryd.prog 102 #[.int .i64 64] w (NumsRet w (fun l => l = Rp.pr) 64) := by
  go_enter Tryd.func102, Tryd.ntmps102
  go_wp2_with fail
  go_loopg [3, 4] 310 (fun r t n wr => ∃ (k : Nat) (A : Option Addr) (L c N : Nat) (l : List Nat), r + k = 310 ∧ N = k + 2 ∧ l = Rp.pl k ∧ L = l.length ∧ t = .slice A L c ∧ n = .int .i64 (N : Int) ∧ OwnN wr w.heap.size A L c l ∧ Below w.heap.size w wr)
  case atStart => exact ⟨0, none, 0, 0, 2, [], rfl, rfl, rfl, rfl, rfl, rfl, OwnN.nil _ _, Below.refl _ _⟩
  case round =>
    obtain ⟨k, A, L, c, N, l, hgk, hN, hl, hL, rfl, rfl, hown, hbw⟩ := hrel
    obtain ⟨wo, rfl⟩ : ∃ wo : World, wo = wr := ⟨_, rfl⟩
    have hL64 : L ≤ 64 := by rw [hL, hl]; exact Rp.pl_bd (by omega)
    have hN1 : 2 ≤ N := by omega
    have hN2 : N ≤ 1000 := by omega
    have hpos := Rp.pl_pos k
    rw [← hl] at hpos
    have HP := Lib.hid hpos
    have hk64 : L < 64 → k < 310 := fun h => Rp.pl_upto (by rw [← hl, ← hL]; exact h)
    have HK := Lib.hid (And.intro hgk (And.intro hN (And.intro hl (And.intro hL hk64))))
    clear hgk hN hl hL hpos hk64
    by_cases hlt : L < 64
    · obtain ⟨gq, rfl⟩ : ∃ gq, gq = gk := ⟨_, rfl⟩
      go_wp2_with fail
      go_loopg [5, 6] L (fun r pb i wr => ∃ (j : Nat) (b : Bool), r + j = L ∧ i = .int .i64 (j : Int) ∧ pb = .bool b ∧ b = noDiv (l.take j) N ∧ wr = wo)
      case atStart => exact ⟨0, true, rfl, rfl, rfl, rfl, rfl⟩
      case round =>
        obtain ⟨j, b, hgj, rfl, rfl, hb, rfl⟩ := hrel
        have HJ := Lib.hid (And.intro hgj hb)
        clear hb
        by_cases hj : j < L
        · clear hgj
          obtain ⟨x, hx⟩ : ∃ x, l[j]? = some x := ⟨l[j]'(by rw [← HK.out.2.2.2.1]; exact hj), by simp⟩
          have hxm := HP.out x (List.mem_of_getElem? hx)
          have hx2 : 2 ≤ x := hxm.1
          have hx3 : x ≤ 1000 := by have := HK.out; omega
          rcases A with _ | ⟨bA, oA, sp⟩
          · exfalso
            have := hown.form (by omega)
            obtain ⟨g, e, _⟩ := this
            cases e
          obtain ⟨g, e, _, _⟩ := hown.form (by omega)
          cases e
          have c1 := nth_n hown.vs hx
          rw [Nat.zero_add] at c1
          have htk : l.take (j + 1) = l.take j ++ [x] := by
            rw [List.take_add_one, hx]; rfl
          have hnd : noDiv (l.take (j + 1)) N = (b && !(N % x == 0)) := by rw [htk, noDiv_snoc, ← HJ.out.2]
          have HD := Lib.hid hnd
          clear hx hxm htk hnd
          have hx0 : ((x : Int) == 0) = false := by simp; omega
          have hx1 : ((x : Nat) : Int) ≠ 0 := by omega
          by_cases hm : N % x = 0
          · have hmi : (((N : Int) % (x : Int)) == 0) = true := by
              rw [← Int.natCast_emod, hm]; rfl
            have HM := Lib.hid hm
            clear hm
            go_wp2_with fail
            go_roundg (gk - 1)
            case measure => have := HJ.out.1; omega
            case rel => exact ⟨j + 1, false, by have := HJ.out.1; omega, by go_num, rfl, by rw [HD.out, HM.out]; simp, rfl⟩
          · have hmi : (((N : Int) % (x : Int)) == 0) = false := by
              rw [← Int.natCast_emod]; simp; omega
            have HM := Lib.hid hm
            clear hm
            go_wp2_with fail
            go_roundg (gk - 1)
            case measure => have := HJ.out.1; omega
            case rel => exact ⟨j + 1, b, by have := HJ.out.1; omega, by go_num, rfl, by rw [HD.out]; have := HM.out; cases b <;> simp [this], rfl⟩
        · obtain rfl : j = L := by omega
          clear hgj
          have hb2 : b = noDiv l N := by rw [HJ.out.2, List.take_of_length_le (by rw [← HK.out.2.2.2.1]; exact Nat.le_refl _)]
          cases b
          · have HB := Lib.hid hb2
            clear hb2
            go_wp2_with fail
            go_roundg (gq - 1)
            case measure => have := HK.out.1; have := HK.out.2.2.2.2 hlt; omega
            case rel =>
              have h310 := HK.out.2.2.2.2 hlt
              have hps : Rp.pl (k + 1) = l := by rw [Rp.pl, ← HK.out.2.1, ← HK.out.2.2.1]; exact pstep_yes _ _ HB.out.symm
              exact ⟨k + 1, A, j, c, N + 1, l, by have := HK.out.1; omega, by have := HK.out.2.1; omega, hps.symm, HK.out.2.2.2.1, rfl, by go_num, hown, hbw⟩
          · have HB := Lib.hid hb2
            clear hb2
            have hal : Below wr.heap.size wr (wr.alloc (.cells #[.int .i64 (N : Int)] 3)) := (Below.refl _ _).alloc (Nat.le_refl _) _
            have hown1 := hown.alloc (.cells #[.int .i64 (N : Int)] 3)
            have hq : (j + 1) * 8 ≤ 140737488355328 := by omega
            have hq2 : j + 1 ≤ maxLen := by unfold maxLen; omega
            have hbz := Nat.le_trans hbw.size hal.size
            go_wp2_with (at_builtin; refine wpList_appv Tryd.underlying102 infoI rfl rfl (.tmp 27) (.tmp 29) rfl w.heap.size _ _ _ _ rfl hown1 _ _ 1 1 _ rfl (VS.onen wr N) (oneN _) hq hq2 hbz ?_; intro A2 c2 w2 hown2 hg2 _)
            go_roundg (gq - 1)
            case measure => have := HK.out.1; have := HK.out.2.2.2.2 hlt; omega
            case rel =>
              have h310 := HK.out.2.2.2.2 hlt
              have hps : Rp.pl (k + 1) = l ++ [N] := by rw [Rp.pl, ← HK.out.2.1, ← HK.out.2.2.1]; exact pstep_no _ _ HB.out.symm
              refine ⟨k + 1, A2, j + 1, c2, N + 1, l ++ [N], by have := HK.out.1; omega, by have := HK.out.2.1; omega, hps.symm, by rw [List.length_append, ← HK.out.2.2.2.1]; rfl, rfl, by go_num, ?_, below_row (hbw.trans (hal.mono hbw.size)) hbz hown1 (Nat.le_refl _) hg2⟩
              unfold OwnN; rw [List.map_append]; exact hown2
    · obtain rfl : L = 64 := by omega
      have hk : k = 310 := by
        rcases Nat.lt_or_ge k 310 with h | h
        · have := Rp.pl_lt h
          have h2 := HK.out
          rw [← h2.2.2.1, ← h2.2.2.2.1] at this
          omega
        · have := HK.out.1; omega
      have HKK := Lib.hid hk
      clear hk
      go_wp2_with fail
      go_ret
      exact ⟨A, c, l, rfl, hown, by rw [HK.out.2.2.1, HKK.out]; exact Rp.pl_310, hbw⟩
end Go.Proofs.YtmnanbcinfdbaaaDoor
