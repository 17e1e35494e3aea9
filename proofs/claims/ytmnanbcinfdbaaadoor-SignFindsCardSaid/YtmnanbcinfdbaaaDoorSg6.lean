/- A table that is none; Best; conditions: none beyond their hypotheses. -/
import Derived.Test.YtmnanbcinfdbaaaDoorSg5
namespace Go.Proofs.YtmnanbcinfdbaaaDoor
open Go.RowKit Go.Proofs.U
set_option linter.unusedVariables false
theorem Has_zero (i : Int) : Has 0 i = false := by
  unfold Has
  rcases Int.lt_or_le i 0 with h | h
  · rw [show decide (0 ≤ i) = false by simp; omega]; rfl
  · rw [show decide (i < ((0 : Nat) : Int)) = false by simp; omega]; exact Bool.and_false _
theorem hasNil (w : World) (i : Int) : Calls Tryd.prog 72 #[.pointer none, .int .i64 i] w fun e w' => e = .returned (.bool false) ∧ w = w' := by
  have := hasNil_any w i
  rw [Has_zero] at this
  exact this
set_option maxHeartbeats 1000000 in
theorem weakNil_any (w : World) (i : Int) : Calls Tryd.prog 37 #[.pointer none, .int .i64 i] w fun e w' => e = .returned (.int .u32 0) ∧ w = w' := by
  have hh := hasNil w i
  go_enter Tryd.func37, Tryd.ntmps37
  go_wp2_with (go_at_call 72; refine hh.mono ?_; rintro e w' ⟨rfl, rfl⟩)
  go_ret
  exact ⟨rfl, rfl⟩
set_option maxHeartbeats 1000000 in
theorem blockNil_any (w : World) (i : Int) : Calls Tryd.prog 39 #[.pointer none, .int .i64 i] w fun e w' => e = .returned (.slice none 0 0) ∧ w = w' := by
  have hh := hasNil w i
  go_enter Tryd.func39, Tryd.ntmps39
  go_wp2_with (go_at_call 72; refine hh.mono ?_; rintro e w' ⟨rfl, rfl⟩)
  go_ret
  exact ⟨rfl, rfl⟩
set_option maxHeartbeats 1000000 in
theorem isNil_any (w : World) (i : Int) (v : Value) : Calls Tryd.prog 40 #[.pointer none, .int .i64 i, v] w fun e w' => e = .returned (.bool false) ∧ w = w' := by
  have hh := hasNil w i
  go_enter Tryd.func40, Tryd.ntmps40
  go_wp2_with (go_at_call 72; refine hh.mono ?_; rintro e w' ⟨rfl, rfl⟩)
  go_ret
  exact ⟨rfl, rfl⟩
set_option maxHeartbeats 1000000 in
theorem findNil_any (w : World) (x : Int) (A : Option Addr) (n c : Nat) : Calls Tryd.prog 32 #[.pointer none, .int .u32 x, .slice A n c] w fun e w' => e = .returned (.tuple #[.int .i64 0, .bool false]) ∧ w = w' := by
  go_enter Tryd.func32, Tryd.ntmps32
  go_wp2_with fail
  exact bodyPost_ret (results_tmp2 rfl _ _ _) rfl ⟨rfl, rfl⟩
/-- the zero digest -/
def Z32 : List UInt8 := List.replicate 32 0
theorem strong_of (w : World) (p : Value) (i : Int) (h : ∀ w, Calls Tryd.prog 72 #[p, .int .i64 i] w fun e w' => e = .returned (.bool false) ∧ w = w') :
    Calls Tryd.prog 38 #[p, .int .i64 i] w fun e w' => e = .returned (.agg (Z32.map bv).toArray) ∧ Below w.heap.size w w' := by
  obtain ⟨hz, hs⟩ := Go.zero_of_info zeroD
  obtain ⟨z, hzz⟩ : ∃ z, z = ((List.replicate 32 (0 : UInt8)).map bv).toArray := ⟨_, rfl⟩
  rw [← hzz] at hz
  have hzs : z.size = 32 := by rw [hzz]; rfl
  have hza : z.all (·.oneCell') = true := by rw [hzz]; exact dig_all _
  have HZ := Lib.hid (And.intro hs (And.intro hzs (And.intro hza hzz)))
  have hg : (.agg (Z32.map bv).toArray : Value) = .agg z := by rw [hzz]; rfl
  rw [hg]
  clear hs hzs hza hzz hg
  have hb0 : Below w.heap.size w (w.alloc (.cells z 25)) := (Below.refl _ _).alloc (Nat.le_refl _) _
  have hB := Blk.new w 25 z
  go_enter Tryd.func38, Tryd.ntmps38
  go_wp2_with (first
    | (go_at_call 72; refine (h _).mono ?_; rintro e w' ⟨rfl, rfl⟩)
    | (refine wpList_load_blk rfl 25 (.tmp 4) rfl w.heap.size rfl _ z _ hB Tryd.underlying25 rfl (by rw [HZ.out.2.1]; exact HZ.out.1) ?_)
    | (refine wpList_store_blk rfl 25 (.tmp 4) (.tmp 16) rfl w.heap.size z rfl rfl _ z hB (by rw [HZ.out.2.1]; exact HZ.out.1) rfl HZ.out.2.2.1 ?_; intro w4 hb4 hg4))
  refine bodyPost_ret (v := .agg z) ?_ rfl ⟨rfl, hb0.grown hg4 hb0.size (fun k hk => by injection hk; omega)⟩
  refine results_cell_row Tryd.results38 _ _ w.heap.size _ _ (0, 0) _ ?_ hb4 Tryd.underlying25 rfl (by rw [HZ.out.2.1]; exact HZ.out.1)
  rfl
/-- the document's size -/
def bst (n : Int) : Nat → Nat
  | 0 => 64
  | r + 1 => if n ≤ (((63 - r) * (63 - r) : Nat) : Int) then 63 - r else bst n r
theorem sq_wrap (k : Nat) (h : k ≤ 64) : IntKind.i64.wrap ((k : Int) * (k : Int)) = ((k * k : Nat) : Int) := by
  have h1 : k * k ≤ 64 * 64 := Nat.mul_le_mul h h
  rw [show (k : Int) * (k : Int) = ((k * k : Nat) : Int) by simp]
  exact wrap_nat_i64 (by omega)
set_option maxHeartbeats 1000000 in
theorem best_any (n : Int) (w : World) : Calls Tryd.prog 42 #[.int .i64 n] w fun e w' => e = .returned (.int .i64 (bst n 60 : Int)) ∧ w = w' := by
  obtain ⟨R, hR⟩ : ∃ R, R = bst n 60 := ⟨_, rfl⟩
  rw [← hR]
  go_enter Tryd.func42, Tryd.ntmps42
  go_wp2_with fail
  go_loopg [3] 60 (fun r i wr => ∃ k : Nat, r + k = 64 ∧ 4 ≤ k ∧ i = .int .i64 (k : Int) ∧ R = bst n (64 - k) ∧ wr = w)
  case atStart => exact ⟨4, by omega, by omega, rfl, hR, rfl⟩
  case round =>
    obtain ⟨k, hgk, h4, rfl, hk, rfl⟩ := hrel
    have HGK := Lib.hid (And.intro hgk hk)
    by_cases hlt : k < 64
    · have t1 : decide ((k : Int) < 64) = true := by simp; omega
      have hw := sq_wrap k (by omega)
      obtain ⟨q, hq⟩ : ∃ q, q = k * k := ⟨_, rfl⟩
      rw [← hq] at hw
      have hst : bst n (64 - k) = if n ≤ (q : Int) then k else bst n (64 - (k + 1)) := by
        have e : 64 - k = (63 - k) + 1 := by omega
        rw [e, bst, show 63 - (63 - k) = k by omega, ← hq, show 64 - (k + 1) = 63 - k by omega]
      have HST := Lib.hid hst
      clear hgk hk hR hst hq
      by_cases hn : (q : Int) < n
      · have t2 : decide ((q : Int) < n) = true := by simpa using hn
        go_wp2_with fail
        go_roundg (gk - 1)
        case measure => have := HGK.out.1; omega
        case rel => exact ⟨k + 1, by have := HGK.out.1; omega, by omega, by go_num, by rw [HGK.out.2, HST.out, if_neg (by omega)], rfl⟩
      · have t2 : decide ((q : Int) < n) = false := by simpa using hn
        have hRk : R = k := by rw [HGK.out.2, HST.out, if_pos (by omega)]
        subst hRk
        go_wp2_with fail
        go_ret
        exact ⟨rfl, rfl⟩
    · obtain rfl : k = 64 := by omega
      have hR64 : R = 64 := hk
      have t1 : decide (((64 : Nat) : Int) < 64) = false := by decide
      subst hR64
      clear hgk hk hR
      go_wp2_with fail
      go_ret
      exact ⟨rfl, rfl⟩
end Go.Proofs.YtmnanbcinfdbaaaDoor
