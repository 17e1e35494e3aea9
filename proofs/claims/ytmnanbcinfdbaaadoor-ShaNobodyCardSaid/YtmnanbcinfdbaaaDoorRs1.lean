/- The walks of the reference of sha: eight; conditions: none beyond its hypotheses. -/
import Derived.Test.YtmnanbcinfdbaaaDoorLaw05b
namespace Go.Proofs.YtmnanbcinfdbaaaDoor
open Go.RowKit Go.Proofs.U
set_option linter.unusedVariables false

theorem own_one (w : World) (e : TypeId) (b : UInt8) (base : Nat) (hb : base ≤ w.heap.size) : Own (w.alloc (.cells #[.int .u8 (b.toNat : Int)] e)) base e (some ⟨w.heap.size, 0, none⟩) 1 1 [b] :=
  ⟨rfl, .inr ⟨w.heap.size, 1, _, rfl, hb, heap_alloc_new w _, Nat.le_refl _, by decide, rfl, rfl⟩⟩
theorem eight_drop (n i : Nat) (h : i < 8) : UInt8.ofNat (n / 256 ^ i) :: (Sh.eightb n).drop (8 - i) = (Sh.eightb n).drop (8 - (i + 1)) := by
  match i, h with
  | 0, _ => rfl
  | 1, _ => rfl
  | 2, _ => rfl
  | 3, _ => rfl
  | 4, _ => rfl
  | 5, _ => rfl
  | 6, _ => rfl
  | 7, _ => rfl
set_option maxRecDepth 100000 in
set_option maxHeartbeats 4000000 in
theorem reight_any (n : Nat) (hn : n ≤ 9223372036854775807) (w : World) : Calls Tryd.prog 65 #[.int .i64 (n : Int)] w (OwnRet 5 w 8 (Sh.eightb n)) := by
  go_enter Tryd.func65, Tryd.ntmps65
  go_wp2_with fail
  go_loopg [0, 3, 4] 8 (fun r nn t i wr => ∃ (k m : Nat) (A : Option Addr) (c : Nat), r + k = 8 ∧ m = n / 256 ^ k ∧ nn = .int .i64 (m : Int) ∧ i = .int .i64 k ∧ t = .slice A k c ∧ Own wr w.heap.size 5 A k c ((Sh.eightb n).drop (8 - k)) ∧ Below w.heap.size w wr)
  case atStart => exact ⟨0, n, none, 0, rfl, by simp, rfl, rfl, rfl, by rw [List.drop_of_length_le (by rw [Sh.eightb_len]; omega)]; exact Own.nil _ _ _, Below.refl _ _⟩
  case round =>
    obtain ⟨k, m, A, c, hk, hm, rfl, rfl, rfl, hown, hbw⟩ := hrel
    have HK := Lib.hid hk
    have HM := Lib.hid hm
    have hmn : m ≤ 9223372036854775807 := by rw [hm]; exact Nat.le_trans (Nat.div_le_self _ _) hn
    by_cases h8 : k < 8
    · clear hk hm
      have hb1 : ((m : Int) % 256) = ((UInt8.ofNat m).toNat : Int) := by rw [UInt8.toNat_ofNat']; omega
      obtain ⟨wo, rfl⟩ : ∃ wo : World, wo = wr := ⟨_, rfl⟩
      obtain ⟨b, hb⟩ : ∃ b, b = UInt8.ofNat m := ⟨_, rfl⟩
      rw [← hb] at hb1
      have HB := Lib.hid hb
      clear hb
      have ho1 := own_one wo 5 b wo.heap.size (Nat.le_refl _)
      have hal : Below wo.heap.size wo (wo.alloc (.cells #[.int .u8 (b.toNat : Int)] 5)) := (Below.refl _ _).alloc (Nat.le_refl _) _
      have hbs := (hown.below hal).bs
      have hq : 1 + k ≤ 140737488355328 := by omega
      go_wp2_with (at_builtin; refine wpList_app bt rfl (.tmp 12) (.tmp 13) rfl wo.heap.size _ _ _ [b] rfl ho1 _ _ _ _ ((Sh.eightb n).drop (8 - k)) rfl hbs hq (by simp) ?_; intro A2 c2 w2 hown2 hg2 _)
      go_roundg (gk - 1)
      case measure => have := HK.out; omega
      case rel =>
        have hbw2 : Below w.heap.size w w2 := below_of_grown (hbw.trans (hal.mono hbw.size)) (Nat.le_trans hbw.size hal.size) ho1 hbw.size hg2
        refine ⟨k + 1, m / 256, A2, c2, by have := HK.out; omega, by rw [HM.out, Nat.div_div_eq_div_mul, Nat.pow_succ], by go_num, by go_num, by rw [Nat.add_comm], ?_, hbw2⟩
        rw [← eight_drop n k h8, ← HM.out, ← HB.out, Nat.add_comm]
        exact hown2.mono hbw.size
    · obtain rfl : k = 8 := by omega
      go_wp2_with fail
      go_ret
      exact ⟨_, _, rfl, by simpa using hown, hbw⟩
end Go.Proofs.YtmnanbcinfdbaaaDoor
