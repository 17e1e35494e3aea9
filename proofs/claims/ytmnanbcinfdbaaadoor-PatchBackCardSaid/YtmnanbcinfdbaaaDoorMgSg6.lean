/- A table that is none; Best; conditions: none beyond their hypotheses. The example of chapter 17; conditions: none beyond their hypotheses. SignBest; conditions: none beyond its hypotheses. What Find finds, plain; conditions: none. Strong at a block that is there; sign.Of refused; the document's Block and First; conditions: none beyond their hypotheses. -/
import Derived.Test.YtmnanbcinfdbaaaDoorMgSg5
import Derived.Test.YtmnanbcinfdbaaaDoorMgSl
import Derived.Test.YtmnanbcinfdbaaaDoorMgSh7
set_option linter.unusedSimpArgs false
set_option linter.unusedVariables false
section
namespace Go.Proofs.YtmnanbcinfdbaaaDoor
open Go.RowKit Go.Proofs.U
set_option linter.unusedVariables false
theorem Has_zero (i : Int) : Has 0 i = false := by
  unfold Has
  rcases Int.lt_or_le i 0 with h | h
  · rw [show decide (0 ≤ i) = false by simp; omega]; rfl
  · rw [show decide (i < ((0 : Nat) : Int)) = false by simp; omega]; exact Bool.and_false _
theorem hasNil (w : World) (i : Int) : Calls Tryd.prog 72 #[.pointer none, .int .i64 i] w fun e w' => e = .returned (.bool false) ∧ w = w' := by
  have := hasNil_any w i
  rw [Has_zero] at this
  exact this
set_option maxHeartbeats 1000000 in
theorem weakNil_any (w : World) (i : Int) : Calls Tryd.prog 37 #[.pointer none, .int .i64 i] w fun e w' => e = .returned (.int .u32 0) ∧ w = w' := by
  have hh := hasNil w i
  go_enter Tryd.func37, Tryd.ntmps37
  go_wp2_with (go_at_call 72; refine hh.mono ?_; rintro e w' ⟨rfl, rfl⟩)
  go_ret
  exact ⟨rfl, rfl⟩
set_option maxHeartbeats 1000000 in
theorem blockNil_any (w : World) (i : Int) : Calls Tryd.prog 39 #[.pointer none, .int .i64 i] w fun e w' => e = .returned (.slice none 0 0) ∧ w = w' := by
  have hh := hasNil w i
  go_enter Tryd.func39, Tryd.ntmps39
  go_wp2_with (go_at_call 72; refine hh.mono ?_; rintro e w' ⟨rfl, rfl⟩)
  go_ret
  exact ⟨rfl, rfl⟩
set_option maxHeartbeats 1000000 in
theorem isNil_any (w : World) (i : Int) (v : Value) : Calls Tryd.prog 40 #[.pointer none, .int .i64 i, v] w fun e w' => e = .returned (.bool false) ∧ w = w' := by
  have hh := hasNil w i
  go_enter Tryd.func40, Tryd.ntmps40
  go_wp2_with (go_at_call 72; refine hh.mono ?_; rintro e w' ⟨rfl, rfl⟩)
  go_ret
  exact ⟨rfl, rfl⟩
set_option maxHeartbeats 1000000 in
theorem findNil_any (w : World) (x : Int) (A : Option Addr) (n c : Nat) : Calls Tryd.prog 32 #[.pointer none, .int .u32 x, .slice A n c] w fun e w' => e = .returned (.tuple #[.int .i64 0, .bool false]) ∧ w = w' := by
  go_enter Tryd.func32, Tryd.ntmps32
  go_wp2_with fail
  exact bodyPost_ret (results_tmp2 rfl _ _ _) rfl ⟨rfl, rfl⟩
/-- the zero digest -/
def Z32 : List UInt8 := List.replicate 32 0
theorem strong_of (w : World) (p : Value) (i : Int) (h : ∀ w, Calls Tryd.prog 72 #[p, .int .i64 i] w fun e w' => e = .returned (.bool false) ∧ w = w') :
    Calls Tryd.prog 38 #[p, .int .i64 i] w fun e w' => e = .returned (.agg (Z32.map bv).toArray) ∧ Below w.heap.size w w' := by
  obtain ⟨hz, hs⟩ := Go.zero_of_info zeroD
  obtain ⟨z, hzz⟩ : ∃ z, z = ((List.replicate 32 (0 : UInt8)).map bv).toArray := ⟨_, rfl⟩
  rw [← hzz] at hz
  have hzs : z.size = 32 := by rw [hzz]; rfl
  have hza : z.all (·.oneCell') = true := by rw [hzz]; exact dig_all _
  have HZ := Lib.hid (And.intro hs (And.intro hzs (And.intro hza hzz)))
  have hg : (.agg (Z32.map bv).toArray : Value) = .agg z := by rw [hzz]; rfl
  rw [hg]
  clear hs hzs hza hzz hg
  have hb0 : Below w.heap.size w (w.alloc (.cells z 25)) := (Below.refl _ _).alloc (Nat.le_refl _) _
  have hB := Blk.new w 25 z
  go_enter Tryd.func38, Tryd.ntmps38
  go_wp2_with (first
    | (go_at_call 72; refine (h _).mono ?_; rintro e w' ⟨rfl, rfl⟩)
    | (refine wpList_load_blk rfl 25 (.tmp 4) rfl w.heap.size rfl _ z _ hB Tryd.underlying25 rfl (by rw [HZ.out.2.1]; exact HZ.out.1) ?_)
    | (refine wpList_store_blk rfl 25 (.tmp 4) (.tmp 16) rfl w.heap.size z rfl rfl _ z hB (by rw [HZ.out.2.1]; exact HZ.out.1) rfl HZ.out.2.2.1 ?_; intro w4 hb4 hg4))
  refine bodyPost_ret (v := .agg z) ?_ rfl ⟨rfl, hb0.grown hg4 hb0.size (fun k hk => by injection hk; omega)⟩
  refine results_cell_row Tryd.results38 _ _ w.heap.size _ _ (0, 0) _ ?_ hb4 Tryd.underlying25 rfl (by rw [HZ.out.2.1]; exact HZ.out.1)
  rfl
/-- the document's size -/
def bst (n : Int) : Nat → Nat
  | 0 => 64
  | r + 1 => if n ≤ (((63 - r) * (63 - r) : Nat) : Int) then 63 - r else bst n r
theorem sq_wrap (k : Nat) (h : k ≤ 64) : IntKind.i64.wrap ((k : Int) * (k : Int)) = ((k * k : Nat) : Int) := by
  have h1 : k * k ≤ 64 * 64 := Nat.mul_le_mul h h
  rw [show (k : Int) * (k : Int) = ((k * k : Nat) : Int) by simp]
  exact wrap_nat_i64 (by omega)
set_option maxHeartbeats 1000000 in
theorem best_any (n : Int) (w : World) : Calls Tryd.prog 42 #[.int .i64 n] w fun e w' => e = .returned (.int .i64 (bst n 60 : Int)) ∧ w = w' := by
  obtain ⟨R, hR⟩ : ∃ R, R = bst n 60 := ⟨_, rfl⟩
  rw [← hR]
  go_enter Tryd.func42, Tryd.ntmps42
  go_wp2_with fail
  go_loopg [3] 60 (fun r i wr => ∃ k : Nat, r + k = 64 ∧ 4 ≤ k ∧ i = .int .i64 (k : Int) ∧ R = bst n (64 - k) ∧ wr = w)
  case atStart => exact ⟨4, by omega, by omega, rfl, hR, rfl⟩
  case round =>
    obtain ⟨k, hgk, h4, rfl, hk, rfl⟩ := hrel
    have HGK := Lib.hid (And.intro hgk hk)
    by_cases hlt : k < 64
    · have t1 : decide ((k : Int) < 64) = true := by simp; omega
      have hw := sq_wrap k (by omega)
      obtain ⟨q, hq⟩ : ∃ q, q = k * k := ⟨_, rfl⟩
      rw [← hq] at hw
      have hst : bst n (64 - k) = if n ≤ (q : Int) then k else bst n (64 - (k + 1)) := by
        have e : 64 - k = (63 - k) + 1 := by omega
        rw [e, bst, show 63 - (63 - k) = k by omega, ← hq, show 64 - (k + 1) = 63 - k by omega]
      have HST := Lib.hid hst
      clear hgk hk hR hst hq
      by_cases hn : (q : Int) < n
      · have t2 : decide ((q : Int) < n) = true := by simpa using hn
        go_wp2_with fail
        go_roundg (gk - 1)
        case measure => have := HGK.out.1; omega
        case rel => exact ⟨k + 1, by have := HGK.out.1; omega, by omega, by go_num, by rw [HGK.out.2, HST.out, if_neg (by omega)], rfl⟩
      · have t2 : decide ((q : Int) < n) = false := by simpa using hn
        have hRk : R = k := by rw [HGK.out.2, HST.out, if_pos (by omega)]
        subst hRk
        go_wp2_with fail
        go_ret
        exact ⟨rfl, rfl⟩
    · obtain rfl : k = 64 := by omega
      have hR64 : R = 64 := hk
      have t1 : decide (((64 : Nat) : Int) < 64) = false := by decide
      subst hR64
      clear hgk hk hR
      go_wp2_with fail
      go_ret
      exact ⟨rfl, rfl⟩
end Go.Proofs.YtmnanbcinfdbaaaDoor
end

section
namespace Go.Proofs.YtmnanbcinfdbaaaDoor
open Go.RowKit Go.Proofs.U
set_option linter.unusedVariables false
theorem Tt.of {w w' : World} {Ab : Option Addr} {nb cb s : Nat} {base : List UInt8} (hb : BS w w.heap.size Ab nb base) (hcb : nb ≤ cb) (hnb : nb ≤ 4096) (hs : 4 ≤ s) (hs2 : s ≤ 64)
    (ht : Tab w' (w.heap.size + 1) w.heap.size (w.heap.size + 5) Ab nb cb base s (nb / s) (nb / s)) (hbw : Below w.heap.size w w') : Tt w' (w.heap.size + 1) w.heap.size (w.heap.size + 5) Ab nb cb base s :=
  ⟨ht, (hb.below hbw).more hbw.size, hcb, hnb, hs, hs2⟩
theorem eg_find : fnd [97, 98, 99, 100, 97, 98, 99, 100, 101, 102] 4 [97, 98, 99, 100] (grp [97, 98, 99, 100, 97, 98, 99, 100, 101, 102] 4 (rsum [97, 98, 99, 100]) 2) = some 0 := by decide
theorem eg_best : bst 17 60 = 5 := by decide
set_option maxRecDepth 100000 in
set_option maxHeartbeats 4000000 in
theorem lives17 (w : World) (hT : Tabs w) : Calls Tryd.prog 29 #[] w (Yes w) := by
  obtain ⟨base, hbase⟩ : ∃ b : List UInt8, b = [97, 98, 99, 100, 97, 98, 99, 100, 101, 102] := ⟨_, rfl⟩
  obtain ⟨part, hpart⟩ : ∃ b : List UInt8, b = [97, 98, 99, 100] := ⟨_, rfl⟩
  have hf := eg_find
  rw [← hbase, ← hpart] at hf
  have kc := fun (w : World) (C : Array Value) (n c : Nat) => Lib.run_convert_bytes_const (P := Tryd.prog) w 22 5 C n c Tryd.underlying22 Tryd.underlying5
  have HB := Lib.hid (And.intro hbase (And.intro hpart hf))
  clear hbase hpart hf
  go_enter Tryd.func29, Tryd.ntmps29
  go_wp2_with fail
  have hb0 : Below w.heap.size w (w.alloc (.cells (([97, 98, 99, 100, 97, 98, 99, 100, 101, 102] : List UInt8).map bv).toArray 5 (10, 11))) := (Below.refl _ _).alloc (Nat.le_refl _) _
  have hbs0 : BS (w.alloc (.cells (([97, 98, 99, 100, 97, 98, 99, 100, 101, 102] : List UInt8).map bv).toArray 5 (10, 11))) (w.alloc (.cells (([97, 98, 99, 100, 97, 98, 99, 100, 101, 102] : List UInt8).map bv).toArray 5 (10, 11))).heap.size (some ⟨w.heap.size, 0, none⟩) 10 base := by rw [HB.out.1]; exact BS.fresh w 5 [97, 98, 99, 100, 97, 98, 99, 100, 101, 102] (10, 11)
  refine (of_any (some ⟨w.heap.size, 0, none⟩) 10 10 4 base (w.alloc (.cells (([97, 98, 99, 100, 97, 98, 99, 100, 101, 102] : List UInt8).map bv).toArray 5 (10, 11))) hbs0 (by omega) (by omega) (by omega) (by omega) (hT.stay hb0)).mono ?_
  rintro e w1 ⟨rfl, htab, hb1⟩
  have htt := Tt.of hbs0 (by omega) (by omega) (by omega) (by omega) htab hb1
  have hbw1 := hb0.trans (hb1.mono hb0.size)
  generalize (w.alloc (.cells (([97, 98, 99, 100, 97, 98, 99, 100, 101, 102] : List UInt8).map bv).toArray 5 (10, 11))).heap.size = N at htt ⊢
  generalize (some (⟨w.heap.size, 0, none⟩ : Addr)) = Ab at htt ⊢
  clear htab hb1 hbs0 hb0
  go_wp2_with fail
  have hba : Below w1.heap.size w1 (w1.alloc (.cells (([97, 98, 99, 100] : List UInt8).map bv).toArray 5 (4, 5))) := (Below.refl _ _).alloc (Nat.le_refl _) _
  have hbsa : BS (w1.alloc (.cells (([97, 98, 99, 100] : List UInt8).map bv).toArray 5 (4, 5))) (w1.alloc (.cells (([97, 98, 99, 100] : List UInt8).map bv).toArray 5 (4, 5))).heap.size (some ⟨w1.heap.size, 0, none⟩) 4 part := by rw [HB.out.2.1]; exact BS.fresh w1 5 [97, 98, 99, 100] (4, 5)
  refine (rrsum_any (some ⟨w1.heap.size, 0, none⟩) 4 4 part (w1.alloc (.cells (([97, 98, 99, 100] : List UInt8).map bv).toArray 5 (4, 5))) _ hbsa (by omega)).mono ?_
  rintro e w2 ⟨rfl, hw2⟩
  have hb2 : Below w1.heap.size w1 w2 := by rw [← hw2]; exact hba
  clear hba hbsa hw2
  have htt2 := htt.stay hb2
  have hbw2 := hbw1.trans (hb2.mono hbw1.size)
  obtain ⟨x, hx⟩ : ∃ x, x = rsum part := ⟨_, rfl⟩
  have hxb := rsum_bd part
  rw [← hx] at hxb ⊢
  have hR : fnd base 4 part (grp base 4 x (10 / 4)) = some 0 := by rw [hx]; exact HB.out.2.2
  clear hx
  go_wp2_with fail
  have hbb : Below w2.heap.size w2 (w2.alloc (.cells (([97, 98, 99, 100] : List UInt8).map bv).toArray 5 (4, 5))) := (Below.refl _ _).alloc (Nat.le_refl _) _
  have hbsb : BS (w2.alloc (.cells (([97, 98, 99, 100] : List UInt8).map bv).toArray 5 (4, 5))) (w2.alloc (.cells (([97, 98, 99, 100] : List UInt8).map bv).toArray 5 (4, 5))).heap.size (some ⟨w2.heap.size, 0, none⟩) 4 part := by rw [HB.out.2.1]; exact BS.fresh w2 5 [97, 98, 99, 100] (4, 5)
  have hbw3 := hbw2.trans (hbb.mono hbw2.size)
  refine (find_any _ _ _ _ 10 10 base 4 (w2.alloc (.cells (([97, 98, 99, 100] : List UInt8).map bv).toArray 5 (4, 5))) (htt2.stay hbb) (hT.stay hbw3) x hxb.1 hxb.2 (some ⟨w2.heap.size, 0, none⟩) 4 4 part hbsb (by omega) (by omega)).mono ?_
  rintro e w4 ⟨rfl, hb4⟩
  rw [hR]
  have htt4 := (htt2.stay hbb).stay hb4
  have hbw4 := hbw3.trans (hb4.mono hbw3.size)
  clear hbb hbsb hbw3 hb4 hR
  go_wp2_with fail
  refine (len_any _ _ _ _ 10 10 base 4 w4 htt4).mono ?_
  rintro e w5 ⟨rfl, rfl⟩
  go_wp2_with fail
  refine (best_any 17 w4).mono ?_
  rintro e w5 ⟨rfl, rfl⟩
  rw [eg_best]
  go_wp2_with fail
  go_ret
  exact ⟨rfl, hbw4⟩
end Go.Proofs.YtmnanbcinfdbaaaDoor
end

section
namespace Go.Proofs.YtmnanbcinfdbaaaDoor
open Go.RowKit Go.Proofs.U
set_option linter.unusedVariables false
set_option maxHeartbeats 1000000 in
theorem rbest_any (n : Int) (w : World) : Calls Tryd.prog 43 #[.int .i64 n] w fun e w' => e = .returned (.int .i64 (bst n 60 : Int)) ∧ w = w' := by
  obtain ⟨R, hR⟩ : ∃ R, R = bst n 60 := ⟨_, rfl⟩
  rw [← hR]
  go_enter Tryd.func43, Tryd.ntmps43
  go_wp2_with fail
  go_loopg [3] 60 (fun r i wr => ∃ k : Nat, r + k = 64 ∧ 4 ≤ k ∧ i = .int .i64 (k : Int) ∧ R = bst n (64 - k) ∧ wr = w)
  case atStart => exact ⟨4, by omega, by omega, rfl, hR, rfl⟩
  case round =>
    obtain ⟨k, hgk, h4, rfl, hk, rfl⟩ := hrel
    have HGK := Lib.hid (And.intro hgk hk)
    by_cases hlt : k < 64
    · have t1 : decide ((k : Int) < 64) = true := by simp; omega
      have hw := sq_wrap k (by omega)
      obtain ⟨q, hq⟩ : ∃ q, q = k * k := ⟨_, rfl⟩
      rw [← hq] at hw
      have hst : bst n (64 - k) = if n ≤ (q : Int) then k else bst n (64 - (k + 1)) := by
        have e : 64 - k = (63 - k) + 1 := by omega
        rw [e, bst, show 63 - (63 - k) = k by omega, ← hq, show 64 - (k + 1) = 63 - k by omega]
      have HST := Lib.hid hst
      clear hgk hk hR hst hq
      by_cases hn : n ≤ (q : Int)
      · have t2 : decide (n ≤ (q : Int)) = true := by simpa using hn
        have hRk : R = k := by rw [HGK.out.2, HST.out, if_pos (by omega)]
        subst hRk
        go_wp2_with fail
        go_ret
        exact ⟨rfl, rfl⟩
      · have t2 : decide (n ≤ (q : Int)) = false := by simpa using hn
        go_wp2_with fail
        go_roundg (gk - 1)
        case measure => have := HGK.out.1; omega
        case rel => exact ⟨k + 1, by have := HGK.out.1; omega, by omega, by go_num, by rw [HGK.out.2, HST.out, if_neg (by omega)], rfl⟩
    · obtain rfl : k = 64 := by omega
      have hR64 : R = 64 := hk
      have t1 : decide (((64 : Nat) : Int) < 64) = false := by decide
      subst hR64
      clear hgk hk hR
      go_wp2_with fail
      go_ret
      exact ⟨rfl, rfl⟩
theorem zero_eq (w : World) : (Op.equalIn 10000 25 (.agg (Z32.map bv).toArray) (.agg (Z32.map bv).toArray)).run Tryd.prog w = .ok true w :=
  run_eq_arr w 9998 _ 5 32 .u8 _ Tryd.underlying25 Tryd.underlying5 (by kernel_rfl) fun i hi => by
    have hl : Z32.length = 32 := rfl
    exact ⟨(Z32[i]'(by omega)).toNat, by simp [bv, hl, hi]⟩
theorem zero_built (w : World) : (Instr.build 25 #[]).run Tryd.prog w = .ok (.agg (Z32.map bv).toArray) w := run_build w _ _ _ (by kernel_rfl)
set_option maxRecDepth 100000 in
set_option maxHeartbeats 4000000 in
theorem signBest_any (n i : Int) (w : World) (hT : Tabs w) : Calls Tryd.prog 9 #[.int .i64 n, .int .i64 i] w (Yes w) := by
  obtain ⟨ZZ, hZZ⟩ : ∃ ZZ, ZZ = (Z32.map bv).toArray := ⟨_, rfl⟩
  have ke : ∀ w, (Op.equalIn 10000 25 (.agg ZZ) (.agg #[.int .u8 0, .int .u8 0, .int .u8 0, .int .u8 0, .int .u8 0, .int .u8 0, .int .u8 0, .int .u8 0, .int .u8 0, .int .u8 0, .int .u8 0, .int .u8 0, .int .u8 0, .int .u8 0, .int .u8 0, .int .u8 0, .int .u8 0, .int .u8 0, .int .u8 0, .int .u8 0, .int .u8 0, .int .u8 0, .int .u8 0, .int .u8 0, .int .u8 0, .int .u8 0, .int .u8 0, .int .u8 0, .int .u8 0, .int .u8 0, .int .u8 0, .int .u8 0])).run Tryd.prog w = .ok true w := fun w => by rw [hZZ]; exact zero_eq w
  have ks := fun w => strong_of w (.pointer none) i (fun w => hasNil w i)
  rw [← hZZ] at ks
  clear hZZ
  obtain ⟨R, hR⟩ : ∃ R, R = bst n 60 := ⟨_, rfl⟩
  have k1 := best_any n
  have k2 := rbest_any n
  rw [← hR] at k1 k2
  clear hR
  go_enter Tryd.func9, Tryd.ntmps9
  go_wp2_with fail
  refine (findNil_any w 0 none 0 0).mono ?_
  rintro e w' ⟨rfl, rfl⟩
  go_wp2_with fail
  refine (sizeNil_any w).mono ?_
  rintro e w' ⟨rfl, rfl⟩
  go_wp2_with fail
  refine (lenNil_any w).mono ?_
  rintro e w' ⟨rfl, rfl⟩
  go_wp2_with fail
  refine (weakNil_any w i).mono ?_
  rintro e w' ⟨rfl, rfl⟩
  go_wp2_with fail
  refine (ks w).mono ?_
  rintro e w1 ⟨rfl, hb1⟩
  go_wp2_with fail
  refine (blockNil_any w1 i).mono ?_
  rintro e w' ⟨rfl, rfl⟩
  go_wp2_with fail
  refine (isNil_any w1 i _).mono ?_
  rintro e w' ⟨rfl, rfl⟩
  go_wp2_with fail
  refine (k1 w1).mono ?_
  rintro e w' ⟨rfl, rfl⟩
  go_wp2_with fail
  refine (k2 w1).mono ?_
  rintro e w' ⟨rfl, rfl⟩
  go_wp2_with fail
  refine (lives17 w1 (hT.stay hb1)).mono ?_
  rintro e w2 ⟨rfl, hb2⟩
  go_wp2_with fail
  go_ret
  exact ⟨rfl, hb1.trans (hb2.mono hb1.size)⟩
end Go.Proofs.YtmnanbcinfdbaaaDoor
end

section
namespace Go.Proofs.YtmnanbcinfdbaaaDoor
open Go.RowKit Go.Proofs.U
set_option linter.unusedVariables false
/-- the first block that has the bytes -/
def fst17 (base : List UInt8) (s : Nat) (bs : List UInt8) (n : Nat) : Option Nat := (List.range n).find? fun i => blkB base s i == bs
theorem fnd_eq (base : List UInt8) (s : Nat) (bs : List UInt8) : ∀ n, fnd base s bs (grp base s (rsum bs) n) = (fst17 base s bs n).map (fun i : Nat => (i : Int))
  | 0 => rfl
  | k + 1 => by
    have ih := fnd_eq base s bs k
    unfold fnd fst17 at ih ⊢
    rw [List.range_succ, List.find?_append]
    unfold grp
    by_cases hw : wk base s k = rsum bs
    · rw [if_pos hw, List.find?_append, ih]
      cases h1 : (List.range k).find? (fun i => blkB base s i == bs) with
      | some i => simp
      | none =>
        cases h2 : (blkB base s k == bs) <;> simp [List.find?_cons, h2]
    · rw [if_neg hw, ih]
      have h2 : (blkB base s k == bs) = false := by
        rcases h : (blkB base s k == bs) with _ | _
        · rfl
        · rw [beq_iff_eq] at h
          exact absurd (by rw [← h]; rfl) hw
      cases h1 : (List.range k).find? (fun i => blkB base s i == bs) <;> simp [List.find?_cons, h2]
theorem fnd_ne (base : List UInt8) (s : Nat) (bs : List UInt8) (x : Int) (hx : x ≠ rsum bs) (n : Nat) : fnd base s bs (grp base s x n) = none := by
  unfold fnd
  rw [List.find?_eq_none]
  intro z hz
  obtain ⟨i, rfl, _, hi⟩ := grp_mem base s x z n hz
  intro h
  simp only [beq_iff_eq, Int.toNat_natCast] at h
  exact hx (by rw [← hi, ← h]; rfl)
end Go.Proofs.YtmnanbcinfdbaaaDoor
end

section
namespace Go.Proofs.YtmnanbcinfdbaaaDoor
open Go.RowKit Go.Proofs.U
set_option linter.unusedVariables false
section
variable (g mb B0 : Nat) (Ab : Option Addr) (nb cb : Nat) (base : List UInt8) (s : Nat) (w : World)
set_option maxRecDepth 100000 in
set_option maxHeartbeats 2000000 in
theorem strongYes_any (h : Tt w g mb B0 Ab nb cb base s) (i : Int) (hH : Has (nb / s) i = true) : Calls Tryd.prog 38 #[.pointer (some ⟨g, 0, none⟩), .int .i64 i] w fun e w' =>
    e = .returned (.agg ((Sh.dig (blkB base s i.toNat)).map bv).toArray) ∧ Below w.heap.size w w' := by
  have h0 : ∀ w', Below w.heap.size w w' → Calls Tryd.prog 72 #[.pointer (some ⟨g, 0, none⟩), .int .i64 i] w' fun e w'' => e = .returned (.bool true) ∧ w' = w'' := fun w' hb => by
    have := has_any g mb B0 Ab nb cb base s w' (h.stay hb) i
    rw [hH] at this
    exact this
  obtain ⟨k, rfl, hk⟩ := Has_nat hH
  obtain ⟨gA, cl, hx, hr⟩ := h.place hk
  have hr4 : w.rangeAt gA (k * 33 + 1) ((Sh.dig (blkB base s k)).map bv) := fun q v hv => by
    have := hr (q + 1) v (by simpa [bval] using hv)
    rw [show k * 33 + (q + 1) = k * 33 + 1 + q by omega] at this
    exact this
  have c2 : w.cell? ⟨g, 2, none⟩ = some (.slice (some ⟨gA, 0, none⟩) (nb / s) cl) := Blk.cell hx 2
  obtain ⟨hz, hs⟩ := Go.zero_of_info zeroD
  obtain ⟨z, hzz⟩ : ∃ z, z = ((List.replicate 32 (0 : UInt8)).map bv).toArray := ⟨_, rfl⟩
  rw [← hzz] at hz
  have hzs : z.size = 32 := by rw [hzz]; rfl
  rw [show ((k : Int)).toNat = k from rfl]
  have hDl : ((Sh.dig (blkB base s k)).map bv).length = 32 := by simp [Sh.dig_len]
  have hDa := dig_all (Sh.dig (blkB base s k))
  obtain ⟨DD, hDD⟩ : ∃ DD : List Value, DD = (Sh.dig (blkB base s k)).map bv := ⟨_, rfl⟩
  rw [← hDD] at hDl hDa hr4 ⊢
  have hDs : DD.toArray.size = 32 := by simpa using hDl
  have hb0 : Below w.heap.size w (w.alloc (.cells z 25)) := (Below.refl _ _).alloc (Nat.le_refl _) _
  have h1 := h0 _ hb0
  have hBz := Blk.new w 25 z
  have c2' := (hb0.cell (Blk.lt hx)).trans c2
  have hr5 := range_stay hr4 hb0
  obtain ⟨n, hn⟩ : ∃ n, n = nb / s := ⟨_, rfl⟩
  rw [← hn] at c2' hk
  have HZ := Lib.hid (And.intro hs (And.intro hzs (And.intro hDl (And.intro hDa (And.intro hDs hr5)))))
  clear hs hzs hDl hDa hDs hr5 hr4 hr hx c2 h h0 hH hDD hzz hn
  go_enter Tryd.func38, Tryd.ntmps38
  go_wp2_with (first
    | (go_at_call 72; refine h1.mono ?_; rintro e w' ⟨rfl, rfl⟩)
    | (refine wpList_load_mid rfl 25 (.tmp 14) rfl gA (k * 33 + 1) rfl DD _ HZ.out.2.2.2.2.2 Tryd.underlying25 rfl (by rw [HZ.out.2.2.1]; exact HZ.out.1) ?_)
    | (refine wpList_store_blk rfl 25 (.tmp 4) (.tmp 15) rfl w.heap.size DD.toArray rfl rfl _ z hBz (by rw [HZ.out.2.2.2.2.1]; exact HZ.out.1) (by rw [HZ.out.2.2.2.2.1]; exact HZ.out.2.1) HZ.out.2.2.2.1 ?_; intro w3 hb3 hg3)
    | (refine wpList_load_blk rfl 25 (.tmp 4) rfl w.heap.size rfl _ DD.toArray _ hb3 Tryd.underlying25 rfl (by rw [HZ.out.2.2.2.2.1]; exact HZ.out.1) ?_)
    | (refine wpList_store_blk rfl 25 (.tmp 4) (.tmp 16) rfl w.heap.size DD.toArray rfl rfl _ DD.toArray hb3 (by rw [HZ.out.2.2.2.2.1]; exact HZ.out.1) rfl HZ.out.2.2.2.1 ?_; intro w4 hb4 hg4))
  have hb9 : Below w.heap.size w w3 := hb0.grown hg3 hb0.size (fun k hk => by injection hk; omega)
  refine bodyPost_ret (v := .agg DD.toArray) ?_ rfl ⟨rfl, hb9.grown hg4 hb9.size (fun k hk => by injection hk; omega)⟩
  refine results_cell_row Tryd.results38 _ _ w.heap.size _ _ (0, 0) _ ?_ hb4 Tryd.underlying25 rfl (by rw [HZ.out.2.2.2.2.1]; exact HZ.out.1)
  rfl
set_option maxHeartbeats 2000000 in
theorem strongNo_any (h : Tt w g mb B0 Ab nb cb base s) (i : Int) (hH : Has (nb / s) i = false) : Calls Tryd.prog 38 #[.pointer (some ⟨g, 0, none⟩), .int .i64 i] w fun e w' =>
    e = .returned (.agg (Z32.map bv).toArray) ∧ Below w.heap.size w w' := by
  have h0 : ∀ w', Below w.heap.size w w' → Calls Tryd.prog 72 #[.pointer (some ⟨g, 0, none⟩), .int .i64 i] w' fun e w'' => e = .returned (.bool false) ∧ w' = w'' := fun w' hb => by
    have := has_any g mb B0 Ab nb cb base s w' (h.stay hb) i
    rw [hH] at this
    exact this
  obtain ⟨hz, hs⟩ := Go.zero_of_info zeroD
  obtain ⟨z, hzz⟩ : ∃ z, z = ((List.replicate 32 (0 : UInt8)).map bv).toArray := ⟨_, rfl⟩
  rw [← hzz] at hz
  have hzs : z.size = 32 := by rw [hzz]; rfl
  have hza : z.all (·.oneCell') = true := by rw [hzz]; exact dig_all _
  have HZ := Lib.hid (And.intro hs (And.intro hzs (And.intro hza hzz)))
  have hg : (.agg (Z32.map bv).toArray : Value) = .agg z := by rw [hzz]; rfl
  rw [hg]
  have hb0 : Below w.heap.size w (w.alloc (.cells z 25)) := (Below.refl _ _).alloc (Nat.le_refl _) _
  have hB := Blk.new w 25 z
  have h1 := h0 _ hb0
  clear hs hzs hza hzz hg h0 hH h
  go_enter Tryd.func38, Tryd.ntmps38
  go_wp2_with (first
    | (go_at_call 72; refine h1.mono ?_; rintro e w' ⟨rfl, rfl⟩)
    | (refine wpList_load_blk rfl 25 (.tmp 4) rfl w.heap.size rfl _ z _ hB Tryd.underlying25 rfl (by rw [HZ.out.2.1]; exact HZ.out.1) ?_)
    | (refine wpList_store_blk rfl 25 (.tmp 4) (.tmp 16) rfl w.heap.size z rfl rfl _ z hB (by rw [HZ.out.2.1]; exact HZ.out.1) rfl HZ.out.2.2.1 ?_; intro w4 hb4 hg4))
  refine bodyPost_ret (v := .agg z) ?_ rfl ⟨rfl, hb0.grown hg4 hb0.size (fun k hk => by injection hk; omega)⟩
  refine results_cell_row Tryd.results38 _ _ w.heap.size _ _ (0, 0) _ ?_ hb4 Tryd.underlying25 rfl (by rw [HZ.out.2.1]; exact HZ.out.1)
  rfl
end
/-- Of refuses -/
def NoTab (w : World) (code : Int) (e : Ending) (w' : World) : Prop := e = .returned (.tuple #[.pointer none, .int .i64 code]) ∧ w = w'
set_option maxHeartbeats 1000000 in
theorem ofArg_any (v : Value) (s : Int) (w : World) (hs : s < 4 ∨ 64 < s) : Calls Tryd.prog 30 #[v, .int .i64 s] w (NoTab w 2) := by
  rcases Int.lt_or_le s 4 with h | h
  · have t1 : decide (s < 4) = true := by simpa using h
    go_enter Tryd.func30, Tryd.ntmps30
    go_wp2_with fail
    exact bodyPost_ret (results_tmp2 rfl _ _ _) rfl ⟨rfl, rfl⟩
  · have t1 : decide (s < 4) = false := by simpa using h
    have t2 : decide (64 < s) = true := by simp; omega
    clear hs h
    go_enter Tryd.func30, Tryd.ntmps30
    go_wp2_with fail
    exact bodyPost_ret (results_tmp2 rfl _ _ _) rfl ⟨rfl, rfl⟩
set_option maxHeartbeats 1000000 in
theorem ofLong_any (A : Option Addr) (n c : Nat) (s : Int) (w : World) (h1 : 4 ≤ s) (h2 : s ≤ 64) (hn : 4096 < n) (hm : n ≤ maxLen) : Calls Tryd.prog 30 #[.slice A n c, .int .i64 s] w (NoTab w 13) := by
  have t1 : decide (s < 4) = false := by simp; omega
  have t2 : decide (64 < s) = false := by simp; omega
  have t3 : decide (4096 < (n : Int)) = true := by simp; omega
  clear h1 h2 hn
  go_enter Tryd.func30, Tryd.ntmps30
  go_wp2_with fail
  exact bodyPost_ret (results_tmp2 rfl _ _ _) rfl ⟨rfl, rfl⟩
/-- the document's block -/
def RBlk (w : World) (A : Option Addr) (c s : Nat) (bs : List UInt8) (e : Ending) (w' : World) : Prop := (∃ A' c', e = .returned (.tuple #[.slice A' s c', .bool true]) ∧ s ≤ c' ∧ BS w' w.heap.size A' s bs) ∧ Drawn w w'
set_option maxHeartbeats 1000000 in
theorem rblock_any (A : Option Addr) (n c s k : Nat) (base : List UInt8) (w : World) (hb : BS w w.heap.size A n base) (hc : n ≤ c) (hn : n ≤ 1000000) (hs : 4 ≤ s) (hk : k < n / s) :
    Calls Tryd.prog 36 #[.slice A n c, .int .i64 (s : Int), .int .i64 (k : Int)] w (RBlk w A c s (blkB base s k)) := by
  have hks : (k + 1) * s ≤ n / s * s := Nat.mul_le_mul_right s (by omega)
  have hns : n / s * s ≤ n := Nat.div_mul_le_self n s
  rw [Nat.succ_mul] at hks
  obtain ⟨bb, bo, rfl, _⟩ := hb.2 (by omega)
  obtain ⟨lo, hlo'⟩ : ∃ lo, lo = k * s := ⟨_, rfl⟩
  have hb2 : BS w w.heap.size (some ⟨bb, bo + lo, none⟩) s (blkB base s k) := by
    rw [hlo']
    exact (hb.drop (k := k * s) (by omega)).take (k := s) (by omega)
  rw [← hlo'] at hks
  have m1 : (k : Int) * (s : Int) = (lo : Int) := by rw [hlo']; simp
  have w1 : IntKind.i64.wrap ((k : Int) * (s : Int)) = (lo : Int) := by rw [m1]; exact wrap_nat_i64 (by omega)
  have w2 : IntKind.i64.wrap ((lo : Int) + (s : Int)) = ((lo + s : Nat) : Int) := by
    have := wrap_nat_i64 (n := lo + s) (by omega)
    rwa [Int.natCast_add] at this ⊢
  have hle : lo + s ≤ c := by omega
  have q1 : ((n : Int)).tdiv (s : Int) = ((n / s : Nat) : Int) := by simp [Int.tdiv_eq_ediv]
  obtain ⟨m, hm⟩ : ∃ m, m = n / s := ⟨_, rfl⟩
  rw [← hm] at q1 hk
  have hm2 : m ≤ n := by rw [hm]; exact Nat.div_le_self _ _
  have w3 : IntKind.i64.wrap (m : Int) = (m : Int) := wrap_nat_i64 (by omega)
  have t1 : decide ((k : Int) < 0) = false := by simp
  have t2 : decide ((m : Int) ≤ (k : Int)) = false := by simp; omega
  have t3 : decide (m ≤ k) = false := by simp; omega
  have HB := Lib.hid hb2
  clear m1 hlo' hks hns hb2 hb hm hk
  go_enter Tryd.func36, Tryd.ntmps36
  go_wp2_with fail
  have hsub : lo + s - lo = s := Nat.add_sub_cancel_left _ _
  refine bodyPost_ret (results_tmp2 rfl _ _ _) rfl ⟨⟨some ⟨bb, bo + lo, none⟩, c - lo, ?_, by omega, HB.out⟩, 0, rfl⟩
  rw [hsub]
  rfl
set_option maxHeartbeats 1000000 in
theorem rblockNo_any (A : Option Addr) (n c s : Nat) (i : Int) (w : World) (hn : n ≤ 1000000) (hs : 4 ≤ s) (hi : Has (n / s) i = false) :
    Calls Tryd.prog 36 #[.slice A n c, .int .i64 (s : Int), .int .i64 i] w fun e w' => e = .returned (.tuple #[.slice none 0 0, .bool false]) ∧ Drawn w w' := by
  have q1 : ((n : Int)).tdiv (s : Int) = ((n / s : Nat) : Int) := by simp [Int.tdiv_eq_ediv]
  obtain ⟨m, hm⟩ : ∃ m, m = n / s := ⟨_, rfl⟩
  rw [← hm] at q1 hi
  have hm2 : m ≤ n := by rw [hm]; exact Nat.div_le_self _ _
  have w3 : IntKind.i64.wrap (m : Int) = (m : Int) := wrap_nat_i64 (by omega)
  clear hm
  unfold Has at hi
  rcases Int.lt_or_le i 0 with h | h
  · have t1 : decide (i < 0) = true := by simpa using h
    clear hi
    go_enter Tryd.func36, Tryd.ntmps36
    go_wp2_with fail
    exact bodyPost_ret (results_tmp2 rfl _ _ _) rfl ⟨rfl, 0, rfl⟩
  · have t1 : decide (i < 0) = false := by simpa using h
    have t2 : decide ((m : Int) ≤ i) = true := by
      simp only [Bool.and_eq_false_iff, decide_eq_false_iff_not] at hi
      simp only [decide_eq_true_eq]
      omega
    clear hi h
    go_enter Tryd.func36, Tryd.ntmps36
    go_wp2_with fail
    exact bodyPost_ret (results_tmp2 rfl _ _ _) rfl ⟨rfl, 0, rfl⟩
/-- what First answers -/
def fstI (base : List UInt8) (s : Nat) (b : List UInt8) : Int := match fst17 base s b (base.length / s) with | some i => (i : Int) | none => -1
theorem fst_hit {base : List UInt8} {s : Nat} {b : List UInt8} {k : Nat} (hno : ∀ i, i < k → (blkB base s i == b) = false) (hk : k < base.length / s) (hb : (blkB base s k == b) = true) : fstI base s b = (k : Int) := by
  have : fst17 base s b (base.length / s) = some k := by
    unfold fst17
    rw [List.find?_eq_some_iff_getElem]
    refine ⟨hb, k, by simpa using hk, by simp, fun j hj => ?_⟩
    simp only [List.getElem_range]
    rw [hno j hj]; rfl
  unfold fstI
  rw [this]
theorem fst_miss {base : List UInt8} {s : Nat} {b : List UInt8} (hno : ∀ i, i < base.length / s → (blkB base s i == b) = false) : fstI base s b = -1 := by
  have : fst17 base s b (base.length / s) = none := by
    unfold fst17
    rw [List.find?_eq_none]
    intro i hi
    rw [hno i (List.mem_range.1 hi)]; simp
  unfold fstI
  rw [this]
set_option maxHeartbeats 2000000 in
theorem rfirst_any (A : Option Addr) (n c s : Nat) (base : List UInt8) (w : World) (hb : BS w w.heap.size A n base) (hc : n ≤ c) (hn : n ≤ 1000000) (hs : 4 ≤ s)
    (A' : Option Addr) (m c' : Nat) (b : List UInt8) (hb' : BS w w.heap.size A' m b) :
    Calls Tryd.prog 31 #[.slice A n c, .int .i64 (s : Int), .slice A' m c'] w fun e w' => e = .returned (.int .i64 (fstI base s b)) ∧ Drawn w w' := by
  have hbl := hb.1
  obtain ⟨R, hR⟩ : ∃ R, R = fstI base s b := ⟨_, rfl⟩
  have q1 : ((n : Int)).tdiv (s : Int) = ((n / s : Nat) : Int) := by simp [Int.tdiv_eq_ediv]
  obtain ⟨N, hN⟩ : ∃ N, N = n / s := ⟨_, rfl⟩
  rw [← hR]
  have hm2 : N ≤ n := by rw [hN]; exact Nat.div_le_self _ _
  have w3 : IntKind.i64.wrap (N : Int) = (N : Int) := wrap_nat_i64 (by omega)
  have h2 := fun (w' : World) (h : BS w' w.heap.size A' m b) => run_str h 22 5 9 Tryd.underlying22 Tryd.underlying5 Tryd.underlying9 c'
  have hF : (∀ k, (∀ i, i < k → (blkB base s i == b) = false) → k < N → (blkB base s k == b) = true → R = (k : Int)) ∧ ((∀ i, i < N → (blkB base s i == b) = false) → R = -1) := ⟨fun k h1 h2 h3 => by rw [hR]; exact fst_hit h1 (by rw [hbl, ← hN]; exact h2) h3, fun h1 => by rw [hR]; exact fst_miss (by rw [hbl, ← hN]; exact h1)⟩
  have HF := Lib.hid hF
  have HN := Lib.hid hN
  rw [← hN] at q1
  clear hR hN hbl hF
  go_enter Tryd.func31, Tryd.ntmps31
  go_wp2_with fail
  go_loopg [7] N (fun r i wr => ∃ k : Nat, r + k = N ∧ i = .int .i64 (k : Int) ∧ Drawn w wr ∧ ∀ j, j < k → (blkB base s j == b) = false)
  case atStart => exact ⟨0, by omega, rfl, Drawn.refl _, fun j hj => absurd hj (by omega)⟩
  case round =>
    obtain ⟨k, hgk, rfl, hd, hno⟩ := hrel
    have HGK := Lib.hid (And.intro hgk hno)
    obtain ⟨wo, rfl⟩ : ∃ wo : World, wo = wr := ⟨_, rfl⟩
    by_cases hlt : k < N
    · have t1 : decide ((k : Int) < (N : Int)) = true := by simpa using hlt
      have hz := (hd.below w.heap.size).size
      have hblk := rblock_any A n c s k base wo ((hd.bs hb).more hz) hc hn hs (by rw [← HN.out]; exact hlt)
      clear hgk hno
      have h4 := h2 wo (hd.bs hb')
      cases hB : (blkB base s k == b)
      · go_wp2_with fail
        refine hblk.mono ?_
        rintro e w1 ⟨⟨A1, c1, rfl, hc1, hbs1⟩, hd1⟩
        have h3 := run_str hbs1 22 5 9 Tryd.underlying22 Tryd.underlying5 Tryd.underlying9 c1
        have h5 := h2 w1 ((hd.trans hd1).bs hb')
        go_wp2_with fail
        go_roundg (gk - 1)
        case measure => have := HGK.out.1; omega
        case rel => exact ⟨k + 1, by have := HGK.out.1; omega, by go_num, hd.trans hd1, fun j hj => by
          rcases Nat.lt_or_ge j k with h | h
          · exact HGK.out.2 j h
          · obtain rfl : j = k := by omega
            exact hB⟩
      · have hRk := HF.out.1 k HGK.out.2 hlt hB
        subst hRk
        go_wp2_with fail
        refine hblk.mono ?_
        rintro e w1 ⟨⟨A1, c1, rfl, hc1, hbs1⟩, hd1⟩
        have h3 := run_str hbs1 22 5 9 Tryd.underlying22 Tryd.underlying5 Tryd.underlying9 c1
        have h5 := h2 w1 ((hd.trans hd1).bs hb')
        go_wp2_with fail
        go_ret
        exact ⟨rfl, hd.trans hd1⟩
    · obtain rfl : k = N := by omega
      have t1 : decide ((k : Int) < (k : Int)) = false := by simp
      have hR1 := HF.out.2 hno
      subst hR1
      clear hgk hno
      go_wp2_with fail
      go_ret
      exact ⟨rfl, hd⟩
end Go.Proofs.YtmnanbcinfdbaaaDoor
end
