/- The walks of check.Open and of its reference; conditions: none beyond their hypotheses. -/
import Derived.Test.YthhhiiagppckhaaDoorDck
import Derived.BigQuiet
import Derived.Deep.QuietTactic
import Derived.Deep.RegionWith
namespace Go.Proofs.YthhhiiagppckhaaDoor
open Go.RowKit Go.Proofs.U
set_option linter.unusedVariables false

/-- bytes put together to a word, the lowest first, as the loop of check.Open does it -/
def wk (l : List UInt8) : Nat → BitVec 32
  | 0 => 0#32
  | k + 1 => bo (wk l k) (ofI (((l.getD k 0).toNat : Int) % 4294967296 * 2 ^ (8 * k) % 4294967296))

theorem ofI_nat (n : Nat) (h : n < 4294967296) : (ofI (n : Int)).toNat = n := by
  unfold ofI; rw [BitVec.ofInt_natCast, BitVec.toNat_ofNat]; exact Nat.mod_eq_of_lt (by omega)
theorem wk_step (l : List UInt8) (k i : Nat) (hi : i = 8 * k) (hk : i ≤ 24) (h : (wk l k).toNat < 2 ^ i) : (wk l (k + 1)).toNat = (l.getD k 0).toNat * 2 ^ i + (wk l k).toNat := by
  subst hi
  have hc := (l.getD k 0).toNat_lt
  have h2 : 2 ^ (8 * k) ≤ 2 ^ 24 := Nat.pow_le_pow_right (by omega) hk
  have h3 : (l.getD k 0).toNat * 2 ^ (8 * k) ≤ 255 * 2 ^ 24 := Nat.mul_le_mul (by omega) h2
  have e : (((l.getD k 0).toNat : Int) % 4294967296 * 2 ^ (8 * k) % 4294967296) = (((l.getD k 0).toNat * 2 ^ (8 * k) : Nat) : Int) := by
    have e0 : ((l.getD k 0).toNat : Int) % 4294967296 = (l.getD k 0).toNat := by omega
    have e2 : ((l.getD k 0).toNat : Int) * 2 ^ (8 * k) = (((l.getD k 0).toNat * 2 ^ (8 * k) : Nat) : Int) := by push_cast; rfl
    rw [e0, e2]; omega
  show (bo (wk l k) (ofI _)).toNat = _
  unfold bo
  rw [BitVec.toNat_or, e, ofI_nat _ (by omega), Nat.or_comm]
  exact nat_join _ _ _ (Nat.mul_mod_left _ _) h
theorem wk4 (a b c d : UInt8) : (wk [a, b, c, d] 4).toNat = a.toNat + b.toNat * 256 + c.toNat * 65536 + d.toNat * 16777216 := by
  have ha := a.toNat_lt; have hb := b.toNat_lt; have hc := c.toNat_lt; have hd := d.toNat_lt
  have h0 : (wk [a, b, c, d] 0).toNat = 0 := rfl
  have h1 := wk_step [a, b, c, d] 0 0 rfl (by omega) (by rw [h0]; omega)
  have h2 := wk_step [a, b, c, d] 1 8 rfl (by omega) (by rw [h1, h0]; simp; omega)
  have h3 := wk_step [a, b, c, d] 2 16 rfl (by omega) (by rw [h2, h1, h0]; simp; omega)
  have h4 := wk_step [a, b, c, d] 3 24 rfl (by omega) (by rw [h3, h2, h1, h0]; simp; omega)
  rw [h4, h3, h2, h1, h0]; simp; omega
theorem lo8_nat (a : BitVec 32) : (lo8 a).toNat = a.toNat % 256 := by unfold lo8; rw [UInt8.toNat_ofNat']
theorem bsr_nat (a : BitVec 32) (k : Nat) : (bsr a k).toNat = a.toNat / 2 ^ k := by unfold bsr; rw [BitVec.toNat_ushiftRight, Nat.shiftRight_eq_div_pow]
theorem word_tail (l : List UInt8) (h : l.length = 4) (s : BitVec 32) : wk l 4 = s ↔ l = tail s := by
  match l, h with
  | [a, b, c, d], _ =>
    have ha := a.toNat_lt; have hb := b.toNat_lt; have hc := c.toNat_lt; have hd := d.toNat_lt
    have hw := wk4 a b c d
    have hs := s.isLt
    constructor
    · rintro rfl
      unfold tail
      simp only [List.cons.injEq, and_true]
      refine ⟨?_, ?_, ?_, ?_⟩ <;> apply UInt8.toNat_inj.1 <;> simp only [lo8_nat, bsr_nat, hw] <;> omega
    · intro e
      unfold tail at e
      simp only [List.cons.injEq, and_true] at e
      obtain ⟨rfl, rfl, rfl, rfl⟩ := e
      apply BitVec.eq_of_toNat_eq
      rw [hw]; simp only [lo8_nat, bsr_nat]; omega

/-- what is opened of bytes, and the error's number -/
def opn (bs : List UInt8) : List UInt8 × Int :=
  if bs.length < 4 then ([], 11) else if bs = sealed (bs.take (bs.length - 4)) then (bs.take (bs.length - 4), 0) else ([], 14)
theorem opn_sealed (bs : List UInt8) : opn (sealed bs) = (bs, 0) := by
  unfold opn sealed tail; simp
theorem opn_word {bs : List UInt8} (h : 4 ≤ bs.length) : (bs = sealed (bs.take (bs.length - 4))) ↔ wk (bs.drop (bs.length - 4)) 4 = Crc.more 0#32 (bs.take (bs.length - 4)) := by
  rw [word_tail _ (by simp; omega)]
  unfold sealed
  conv => lhs; lhs; rw [← List.take_append_drop (bs.length - 4) bs]
  exact List.append_cancel_left_eq _ _ _ |>.to_iff

set_option maxHeartbeats 400000 in
theorem open_short (A : Option Addr) (n c : Nat) (bs : List UInt8) (w : World) (hb : BS w w.heap.size A n bs) (h4 : n < 4) :
    Calls Tryd.prog 117 #[.slice A n c] w (OwnCode 5 w (opn bs)) := by
  have e : opn bs = ([], 11) := by unfold opn; rw [if_pos (by rw [hb.1]; exact h4)]
  rw [e]
  go_enter Tryd.func117, Tryd.ntmps117
  go_wp2_with fail
  go_ret2
  exact ⟨none, 0, rfl, Own.nil _ _ _, Below.refl _ _⟩

set_option maxHeartbeats 400000 in
theorem open_long (A : Option Addr) (n c : Nat) (bs : List UInt8) (w : World) (hb : BS w w.heap.size A n bs) (hn : n ≤ 140737488355300) (hc : n ≤ c) (h4 : 4 ≤ n) (hT : Nib w) :
    Calls Tryd.prog 117 #[.slice A n c] w (OwnCode 5 w (opn bs)) := by
  obtain ⟨b, off, rfl, _, _⟩ := hb.2 (by omega)
  have hl := hb.1
  have e4 : n - (n - 4) = 4 := by omega
  have e1 : IntKind.i64.wrap ((n : Int) - 4) = (n : Int) - 4 := IntWalk.i64_in _ (by omega)
  have e2 : ((n : Int) - 4).toNat = n - 4 := by omega
  obtain ⟨body, hbody⟩ : ∃ body, body = bs.take (n - 4) := ⟨_, rfl⟩
  obtain ⟨tl, htl⟩ : ∃ tl, tl = bs.drop (n - 4) := ⟨_, rfl⟩
  have hB : BS w w.heap.size (some ⟨b, off, none⟩) (n - 4) body := hbody ▸ hb.take (by omega)
  have hD : BS w w.heap.size (some ⟨b, off + (n - 4), none⟩) 4 tl := by have := hb.drop (k := n - 4) (by omega); rwa [e4, ← htl] at this
  have hcl := hD.cells
  have hlen := hD.1
  have hbl := hB.1
  have hq : (bs = sealed body) ↔ wk tl 4 = Crc.more 0#32 body := by
    have := opn_word (bs := bs) (by omega)
    rw [hl, ← hbody, ← htl] at this; exact this
  have hopn : opn bs = if wk tl 4 = Crc.more 0#32 body then (body, 0) else ([], 14) := by
    unfold opn; rw [if_neg (by omega), hl, ← hbody]
    by_cases h : bs = sealed body
    · rw [if_pos h, if_pos (hq.1 h)]
    · rw [if_neg h, if_neg (fun h' => h (hq.2 h'))]
  rw [hopn]
  clear hq hopn hbody htl hl
  by_cases hs : wk tl 4 = Crc.more 0#32 body
  all_goals
    first | rw [if_pos hs] | rw [if_neg hs]
    have hs1 := u32_bne (wk tl 4) (Crc.more 0#32 body)
    first | rw [decide_eq_true hs] at hs1 | rw [decide_eq_false hs] at hs1
    simp only [Bool.not_true, Bool.not_false] at hs1
    have Hs := Lib.hid hs
    clear hs
    go_enter Tryd.func117, Tryd.ntmps117
    go_wp2_with fail
    go_quiet (fail)
    go_wp2_with fail
    go_loop [6, 24] (fun t i => ∃ k : Nat, k ≤ 4 ∧ i = .int .i64 k ∧ t = .int .u32 ((wk tl k).toNat : Int)) (fun _ i => 4 - (intOf i).toNat)
    case atStart => exact ⟨0, Nat.zero_le _, rfl, rfl⟩
    case round =>
      obtain ⟨k, hk, rfl, rfl⟩ := hrel
      by_cases hlt : k < 4
      · obtain ⟨x, hx⟩ : ∃ x, tl[k]? = some x := ⟨tl[k]'(by omega), by simp [hlen, hlt]⟩
        have hcell := hcl k x hx
        go_wp2
        go_round
        case rel => exact ⟨k + 1, by omega, by go_num, int_u32 (by simp only [wk, List.getD, hx, Option.getD_some]; first | rfl | simp_all)⟩
        case measure => simp [intOf]; omega
      · have e9 : k = 4 := by omega
        subst e9
        go_wp2_with fail
        refine (sum_any _ _ _ body _ w.heap.size (hB.drewN _) (by unfold maxLen; omega) hT).mono ?_
        rintro e w' ⟨rfl, rfl⟩
        go_wp2_with fail
        first
          | (go_ret2; exact ⟨none, 0, rfl, Own.nil _ _ _, below_drewN (Below.refl _ _) _⟩)
          | (refine (clone_any _ _ _ body _ w.heap.size (hB.drewN _) (Nat.le_refl _) (by omega)).mono ?_
             rintro e w1 ⟨A1, c1, rfl, hown1, hb1⟩
             go_wp2_with fail
             go_ret2
             refine ⟨A1, c1, ?_, ?_, (below_drewN (Below.refl _ _) _).trans hb1⟩
             · simp [hbl]
             · simpa [hbl] using hown1)
theorem open_any (A : Option Addr) (n c : Nat) (bs : List UInt8) (w : World) (hb : BS w w.heap.size A n bs) (hn : n ≤ 140737488355300) (hc : n ≤ c) (hT : Nib w) :
    Calls Tryd.prog 117 #[.slice A n c] w (OwnCode 5 w (opn bs)) := by
  by_cases h4 : n < 4
  · exact open_short A n c bs w hb h4
  · exact open_long A n c bs w hb hn hc (by omega) hT

/-! the reference -/
end Go.Proofs.YthhhiiagppckhaaDoor
