/- The walks of the package check and of its reference: what each computes, in the words of the plain CRC text. The walks of check.Open and of its reference; conditions: none beyond their hypotheses. Bits that are turned in sealed bytes: the plain law behind CheckBursts and FrameBursts; conditions: none beyond their hypotheses. -/
import Derived.Test.YthhhiiagppckhaaGreatDoorRows
import Derived.Test.YthhhiiagppckhaaGreatDoorMgU
import Derived.Test.YthhhiiagppckhaaGreatDoorMgSl
import Derived.Test.YthhhiiagppckhaaGreatDoorMgCrc
import Derived.WalkSpells
import Derived.WalkLawsBesides
import Derived.BigQuiet
import Derived.Deep.QuietTactic
import Derived.Deep.RegionWith
set_option linter.unusedSimpArgs false
set_option linter.unusedVariables false
section
namespace Go.Proofs.YthhhiiagppckhaaGreatDoor
open Go.RowKit Go.Proofs.U
set_option linter.unusedVariables false

/-- the table of the package check, as the world holds it -/
def Nib (w : World) : Prop := ∀ j, j < 16 → w.cell? ⟨1, j, none⟩ = some (.int .u32 ((Crc.nib j).toNat : Int))
theorem Nib.below {w w' : World} {B : Nat} (h : Nib w) (hb : Below B w w') (hB : 1 < B) : Nib w' := fun j hj => (hb.cell (p := ⟨1, j, none⟩) hB).trans (h j hj)

theorem ofI_byte (c : UInt8) : ofI ((c.toNat : Int) % 4294967296) = c.toBitVec.setWidth 32 := by
  unfold ofI
  apply BitVec.eq_of_toNat_eq
  have := c.toNat_lt
  rw [show ((c.toNat : Int) % 4294967296) = ((c.toNat : Nat) : Int) by omega, BitVec.ofInt_natCast, BitVec.toNat_ofNat, BitVec.toNat_setWidth]
  rfl
theorem step_byte (r : BitVec 32) (c : UInt8) :
    bx (bsr (bx (bsr (bx r (ofI ((c.toNat : Int) % 4294967296))) 4) (Crc.nib (ba (bx r (ofI ((c.toNat : Int) % 4294967296))) (ofI 15)).toNat)) 4)
      (Crc.nib (ba (bx (bsr (bx r (ofI ((c.toNat : Int) % 4294967296))) 4) (Crc.nib (ba (bx r (ofI ((c.toNat : Int) % 4294967296))) (ofI 15)).toNat)) (ofI 15)).toNat) = Crc.byte r c := by
  rw [ofI_byte]
  unfold bx bsr ba
  rw [show ofI 15 = 15#32 from by decide, Crc.nib_step, Crc.nib_step]
  unfold Crc.byte
  rw [← Crc.bits_add]
theorem run_snoc {r : BitVec 32} {l : List UInt8} {k : Nat} {c : UInt8} (h : l[k]? = some c) : Crc.run r (l.take (k + 1)) = Crc.byte (Crc.run r (l.take k)) c := by
  unfold Crc.run
  obtain ⟨hk, rfl⟩ := List.getElem?_eq_some_iff.1 h
  rw [List.take_succ_eq_append_getElem hk, List.foldl_append]; rfl
theorem more_eq (s : BitVec 32) (bs : List UInt8) : nt (Crc.run (nt s) bs) = Crc.more s bs := by
  rw [nt_eq, nt_eq]; rfl
theorem int_u32 {a b : BitVec 32} (h : a = b) : Value.int .u32 (a.toNat : Int) = Value.int .u32 (b.toNat : Int) := by rw [h]

set_option maxHeartbeats 400000 in
theorem more_any (s : BitVec 32) (A : Option Addr) (n c : Nat) (bs : List UInt8) (w : World) (B : Nat) (hb : BS w B A n bs) (hn : n ≤ maxLen) (hT : Nib w) :
    Calls Tryz.prog 82 #[.int .u32 (s.toNat : Int), .slice A n c] w fun e w' => e = .returned (.int .u32 ((Crc.more s bs).toNat : Int)) ∧ w = w' := by
  unfold maxLen at hn
  unfold Nib at hT
  go_enter Tryz.func82, Tryz.ntmps82
  go_wp2
  go_loop [0, 11] (fun t i => ∃ k : Nat, k ≤ n ∧ i = .int .i64 k ∧ t = .int .u32 ((Crc.run (nt s) (bs.take k)).toNat : Int)) (fun _ i => n - (intOf i).toNat)
  case atStart => exact ⟨0, Nat.zero_le _, rfl, rfl⟩
  case round =>
    obtain ⟨k, hk, rfl, rfl⟩ := hrel
    by_cases hlt : k < n
    · obtain ⟨b, off, c, rfl, hbB, hx, hc⟩ := hb.at_ hlt
      go_wp2
      go_round
      case rel => exact ⟨k + 1, by omega, by go_num, int_u32 (by rw [run_snoc hx, step_byte])⟩
      case measure => simp [intOf]; omega
    · go_wp2
      go_ret
      refine ⟨congrArg Ending.returned (int_u32 ?_), rfl⟩
      rw [List.take_of_length_le (by have := hb.1; omega)]
      exact more_eq _ _

set_option maxHeartbeats 400000 in
theorem sum_any (A : Option Addr) (n c : Nat) (bs : List UInt8) (w : World) (B : Nat) (hb : BS w B A n bs) (hn : n ≤ maxLen) (hT : Nib w) :
    Calls Tryz.prog 72 #[.slice A n c] w fun e w' => e = .returned (.int .u32 ((Crc.more 0#32 bs).toNat : Int)) ∧ w = w' := by
  go_enter Tryz.func72, Tryz.ntmps72
  go_wp2_with (go_at_call 82; refine (more_any 0#32 _ _ _ bs _ B hb hn hT).mono ?_; rintro e w' ⟨rfl, rfl⟩)
  go_ret
  exact ⟨rfl, rfl⟩

/-! the reference -/
/-- the sum as bytes, the lowest first; what is sealed -/
def tail (s : BitVec 32) : List UInt8 := [lo8 s, lo8 (bsr s 8), lo8 (bsr s 16), lo8 (bsr s 24)]
def sealed (bs : List UInt8) : List UInt8 := bs ++ tail (Crc.more 0#32 bs)

set_option maxHeartbeats 400000 in
theorem seal_any (A : Option Addr) (n c : Nat) (bs : List UInt8) (w : World) (hb : BS w w.heap.size A n bs) (hn : n ≤ 140737488355300) (hT : Nib w) :
    Calls Tryz.prog 52 #[.slice A n c] w (OwnRet 5 w (n + 4) (sealed bs)) := by
  have hm : n ≤ maxLen := by unfold maxLen; omega
  go_enter Tryz.func52, Tryz.ntmps52
  go_wp2_with (first
    | (go_at_call 72; refine (sum_any _ _ _ bs _ _ hb hm hT).mono ?_; rintro e w' ⟨rfl, rfl⟩)
    | (go_at_call 71; refine (clone_any _ _ _ bs _ _ hb (Nat.le_refl _) (by omega)).mono ?_; rintro e w1 ⟨A1, c1, rfl, hown1, hb1⟩)
    | (at_builtin; refine wpList_app bt rfl _ _ rfl w.heap.size _ _ _ bs rfl (hown1.alloc _) (w1.heap.size + 1) _ 4 _ (tail (Crc.more 0#32 bs)) rfl (BS.new w1 5 (tail (Crc.more 0#32 bs))) (by omega) (by have := hb1.size; simp; omega) ?_; intro A2 c2 w2 hown2 hg2 _))
  go_ret
  exact ⟨A2, c2, by simp, hown2, below_of_grown (hb1.alloc hb1.size _) (by have := hb1.size; simp; omega) (hown1.alloc _) (Nat.le_refl _) hg2⟩

theorem Nib.lt {w : World} (h : Nib w) : 1 < w.heap.size := World.block_lt_of_cell? w _ (h 0 (by decide))
theorem Nib.stay {w w' : World} (h : Nib w) (hb : Below w.heap.size w w') : Nib w' := h.below hb h.lt
end Go.Proofs.YthhhiiagppckhaaGreatDoor
end

section
namespace Go.Proofs.YthhhiiagppckhaaGreatDoor
open Go.RowKit Go.Proofs.U
set_option linter.unusedVariables false

/-- bytes put together to a word, the lowest first, as the loop of check.Open does it -/
def wk (l : List UInt8) : Nat → BitVec 32
  | 0 => 0#32
  | k + 1 => bo (wk l k) (ofI (((l.getD k 0).toNat : Int) % 4294967296 * 2 ^ (8 * k) % 4294967296))

theorem ofI_nat (n : Nat) (h : n < 4294967296) : (ofI (n : Int)).toNat = n := by
  unfold ofI; rw [BitVec.ofInt_natCast, BitVec.toNat_ofNat]; exact Nat.mod_eq_of_lt (by omega)
theorem wk_step (l : List UInt8) (k i : Nat) (hi : i = 8 * k) (hk : i ≤ 24) (h : (wk l k).toNat < 2 ^ i) : (wk l (k + 1)).toNat = (l.getD k 0).toNat * 2 ^ i + (wk l k).toNat := by
  subst hi
  have hc := (l.getD k 0).toNat_lt
  have h2 : 2 ^ (8 * k) ≤ 2 ^ 24 := Nat.pow_le_pow_right (by omega) hk
  have h3 : (l.getD k 0).toNat * 2 ^ (8 * k) ≤ 255 * 2 ^ 24 := Nat.mul_le_mul (by omega) h2
  have e : (((l.getD k 0).toNat : Int) % 4294967296 * 2 ^ (8 * k) % 4294967296) = (((l.getD k 0).toNat * 2 ^ (8 * k) : Nat) : Int) := by
    have e0 : ((l.getD k 0).toNat : Int) % 4294967296 = (l.getD k 0).toNat := by omega
    have e2 : ((l.getD k 0).toNat : Int) * 2 ^ (8 * k) = (((l.getD k 0).toNat * 2 ^ (8 * k) : Nat) : Int) := by push_cast; rfl
    rw [e0, e2]; omega
  show (bo (wk l k) (ofI _)).toNat = _
  unfold bo
  rw [BitVec.toNat_or, e, ofI_nat _ (by omega), Nat.or_comm]
  exact nat_join _ _ _ (Nat.mul_mod_left _ _) h
theorem wk4 (a b c d : UInt8) : (wk [a, b, c, d] 4).toNat = a.toNat + b.toNat * 256 + c.toNat * 65536 + d.toNat * 16777216 := by
  have ha := a.toNat_lt; have hb := b.toNat_lt; have hc := c.toNat_lt; have hd := d.toNat_lt
  have h0 : (wk [a, b, c, d] 0).toNat = 0 := rfl
  have h1 := wk_step [a, b, c, d] 0 0 rfl (by omega) (by rw [h0]; omega)
  have h2 := wk_step [a, b, c, d] 1 8 rfl (by omega) (by rw [h1, h0]; simp; omega)
  have h3 := wk_step [a, b, c, d] 2 16 rfl (by omega) (by rw [h2, h1, h0]; simp; omega)
  have h4 := wk_step [a, b, c, d] 3 24 rfl (by omega) (by rw [h3, h2, h1, h0]; simp; omega)
  rw [h4, h3, h2, h1, h0]; simp; omega
theorem lo8_nat (a : BitVec 32) : (lo8 a).toNat = a.toNat % 256 := by unfold lo8; rw [UInt8.toNat_ofNat']
theorem bsr_nat (a : BitVec 32) (k : Nat) : (bsr a k).toNat = a.toNat / 2 ^ k := by unfold bsr; rw [BitVec.toNat_ushiftRight, Nat.shiftRight_eq_div_pow]
theorem word_tail (l : List UInt8) (h : l.length = 4) (s : BitVec 32) : wk l 4 = s ↔ l = tail s := by
  match l, h with
  | [a, b, c, d], _ =>
    have ha := a.toNat_lt; have hb := b.toNat_lt; have hc := c.toNat_lt; have hd := d.toNat_lt
    have hw := wk4 a b c d
    have hs := s.isLt
    constructor
    · rintro rfl
      unfold tail
      simp only [List.cons.injEq, and_true]
      refine ⟨?_, ?_, ?_, ?_⟩ <;> apply UInt8.toNat_inj.1 <;> simp only [lo8_nat, bsr_nat, hw] <;> omega
    · intro e
      unfold tail at e
      simp only [List.cons.injEq, and_true] at e
      obtain ⟨rfl, rfl, rfl, rfl⟩ := e
      apply BitVec.eq_of_toNat_eq
      rw [hw]; simp only [lo8_nat, bsr_nat]; omega

/-- what is opened of bytes, and the error's number -/
def opn (bs : List UInt8) : List UInt8 × Int :=
  if bs.length < 4 then ([], 11) else if bs = sealed (bs.take (bs.length - 4)) then (bs.take (bs.length - 4), 0) else ([], 14)
theorem opn_sealed (bs : List UInt8) : opn (sealed bs) = (bs, 0) := by
  unfold opn sealed tail; simp
theorem opn_word {bs : List UInt8} (h : 4 ≤ bs.length) : (bs = sealed (bs.take (bs.length - 4))) ↔ wk (bs.drop (bs.length - 4)) 4 = Crc.more 0#32 (bs.take (bs.length - 4)) := by
  rw [word_tail _ (by simp; omega)]
  unfold sealed
  conv => lhs; lhs; rw [← List.take_append_drop (bs.length - 4) bs]
  exact List.append_cancel_left_eq _ _ _ |>.to_iff

set_option maxHeartbeats 400000 in
theorem open_short (A : Option Addr) (n c : Nat) (bs : List UInt8) (w : World) (hb : BS w w.heap.size A n bs) (h4 : n < 4) :
    Calls Tryz.prog 58 #[.slice A n c] w (OwnCode 5 w (opn bs)) := by
  have e : opn bs = ([], 11) := by unfold opn; rw [if_pos (by rw [hb.1]; exact h4)]
  rw [e]
  go_enter Tryz.func58, Tryz.ntmps58
  go_wp2_with fail
  go_ret2
  exact ⟨none, 0, rfl, Own.nil _ _ _, Below.refl _ _⟩

set_option maxHeartbeats 400000 in
theorem open_long (A : Option Addr) (n c : Nat) (bs : List UInt8) (w : World) (hb : BS w w.heap.size A n bs) (hn : n ≤ 140737488355300) (hc : n ≤ c) (h4 : 4 ≤ n) (hT : Nib w) :
    Calls Tryz.prog 58 #[.slice A n c] w (OwnCode 5 w (opn bs)) := by
  obtain ⟨b, off, rfl, _, _⟩ := hb.2 (by omega)
  have hl := hb.1
  have e4 : n - (n - 4) = 4 := by omega
  have e1 : IntKind.i64.wrap ((n : Int) - 4) = (n : Int) - 4 := IntWalk.i64_in _ (by omega)
  have e2 : ((n : Int) - 4).toNat = n - 4 := by omega
  obtain ⟨body, hbody⟩ : ∃ body, body = bs.take (n - 4) := ⟨_, rfl⟩
  obtain ⟨tl, htl⟩ : ∃ tl, tl = bs.drop (n - 4) := ⟨_, rfl⟩
  have hB : BS w w.heap.size (some ⟨b, off, none⟩) (n - 4) body := hbody ▸ hb.take (by omega)
  have hD : BS w w.heap.size (some ⟨b, off + (n - 4), none⟩) 4 tl := by have := hb.drop (k := n - 4) (by omega); rwa [e4, ← htl] at this
  have hcl := hD.cells
  have hlen := hD.1
  have hbl := hB.1
  have hq : (bs = sealed body) ↔ wk tl 4 = Crc.more 0#32 body := by
    have := opn_word (bs := bs) (by omega)
    rw [hl, ← hbody, ← htl] at this; exact this
  have hopn : opn bs = if wk tl 4 = Crc.more 0#32 body then (body, 0) else ([], 14) := by
    unfold opn; rw [if_neg (by omega), hl, ← hbody]
    by_cases h : bs = sealed body
    · rw [if_pos h, if_pos (hq.1 h)]
    · rw [if_neg h, if_neg (fun h' => h (hq.2 h'))]
  rw [hopn]
  clear hq hopn hbody htl hl
  by_cases hs : wk tl 4 = Crc.more 0#32 body
  all_goals
    first | rw [if_pos hs] | rw [if_neg hs]
    have hs1 := u32_bne (wk tl 4) (Crc.more 0#32 body)
    first | rw [decide_eq_true hs] at hs1 | rw [decide_eq_false hs] at hs1
    simp only [Bool.not_true, Bool.not_false] at hs1
    have Hs := Lib.hid hs
    clear hs
    go_enter Tryz.func58, Tryz.ntmps58
    go_wp2_with fail
    go_quiet (fail)
    go_wp2_with fail
    go_loop [6, 24] (fun t i => ∃ k : Nat, k ≤ 4 ∧ i = .int .i64 k ∧ t = .int .u32 ((wk tl k).toNat : Int)) (fun _ i => 4 - (intOf i).toNat)
    case atStart => exact ⟨0, Nat.zero_le _, rfl, rfl⟩
    case round =>
      obtain ⟨k, hk, rfl, rfl⟩ := hrel
      by_cases hlt : k < 4
      · obtain ⟨x, hx⟩ : ∃ x, tl[k]? = some x := ⟨tl[k]'(by omega), by simp [hlen, hlt]⟩
        have hcell := hcl k x hx
        go_wp2
        go_round
        case rel => exact ⟨k + 1, by omega, by go_num, int_u32 (by simp only [wk, List.getD, hx, Option.getD_some]; first | rfl | simp_all)⟩
        case measure => simp [intOf]; omega
      · have e9 : k = 4 := by omega
        subst e9
        go_wp2_with fail
        refine (sum_any _ _ _ body _ w.heap.size (hB.drewN _) (by unfold maxLen; omega) hT).mono ?_
        rintro e w' ⟨rfl, rfl⟩
        go_wp2_with fail
        first
          | (go_ret2; exact ⟨none, 0, rfl, Own.nil _ _ _, below_drewN (Below.refl _ _) _⟩)
          | (refine (clone_any _ _ _ body _ w.heap.size (hB.drewN _) (Nat.le_refl _) (by omega)).mono ?_
             rintro e w1 ⟨A1, c1, rfl, hown1, hb1⟩
             go_wp2_with fail
             go_ret2
             refine ⟨A1, c1, ?_, ?_, (below_drewN (Below.refl _ _) _).trans hb1⟩
             · simp [hbl]
             · simpa [hbl] using hown1)
theorem open_any (A : Option Addr) (n c : Nat) (bs : List UInt8) (w : World) (hb : BS w w.heap.size A n bs) (hn : n ≤ 140737488355300) (hc : n ≤ c) (hT : Nib w) :
    Calls Tryz.prog 58 #[.slice A n c] w (OwnCode 5 w (opn bs)) := by
  by_cases h4 : n < 4
  · exact open_short A n c bs w hb h4
  · exact open_long A n c bs w hb hn hc (by omega) hT

/-! the reference -/
end Go.Proofs.YthhhiiagppckhaaGreatDoor
end

section
namespace Go.Proofs.YthhhiiagppckhaaGreatDoor
open Go.RowKit Go.Proofs.U
set_option linter.unusedVariables false

/-- a byte with one bit turned -/
def x8 (c : UInt8) (j : Nat) : UInt8 := UInt8.ofNat (c.toNat ^^^ 2 ^ j)
theorem x8_nat (c : UInt8) (j : Nat) (hj : j < 8) : (x8 c j).toNat = c.toNat ^^^ 2 ^ j := by
  unfold x8
  rw [UInt8.toNat_ofNat']
  apply Nat.mod_eq_of_lt
  exact Nat.xor_lt_two_pow c.toNat_lt (Nat.pow_lt_pow_right (by omega) hj)
theorem x8_walk (c : UInt8) (j : Nat) (hj : j < 8) : bits .xor .u8 (c.toNat : Int) ((2 : Int) ^ j % 256) = ((x8 c j).toNat : Int) := by
  have h2 : (2 : Nat) ^ j < 256 := Nat.pow_lt_pow_right (by omega) hj
  have e : ((2 : Int) ^ j) = ((2 ^ j : Nat) : Int) := by push_cast; rfl
  rw [e, show (((2 ^ j : Nat) : Int) % 256) = ((2 ^ j : Nat) : Int) by generalize 2 ^ j = q at h2 ⊢; omega, u8_xor_nat _ _ c.toNat_lt h2, x8_nat c j hj]
def flip (l : List UInt8) (k : Nat) : List UInt8 := l.set (k / 8) (x8 (l.getD (k / 8) 0) (k % 8))
theorem flip_len (l : List UInt8) (k : Nat) : (flip l k).length = l.length := by simp [flip]
theorem flip_bit (l : List UInt8) (p k : Nat) (hp : p / 8 < l.length) : Crc.bitAt (flip l p) k = (Crc.bitAt l k ^^ decide (k = p)) := by
  unfold Crc.bitAt flip
  by_cases h : k / 8 = p / 8
  · have e1 : (l.set (p / 8) (x8 (l.getD (p / 8) 0) (p % 8))).getD (k / 8) 0 = x8 (l.getD (p / 8) 0) (p % 8) := by
      rw [h]; simp [List.getD, hp]
    rw [e1, x8_nat _ _ (by omega), Nat.testBit_xor, h, Nat.testBit_two_pow]
    congr 1
    by_cases h2 : k = p
    · subst h2; simp
    · have : ¬ p % 8 = k % 8 := by omega
      simp [h2, this]
  · have e1 : (l.set (p / 8) (x8 (l.getD (p / 8) 0) (p % 8))).getD (k / 8) 0 = l.getD (k / 8) 0 := by
      simp [List.getD, List.getElem?_set, Ne.symm h]
    have h2 : ¬ k = p := by intro e; exact h (by rw [e])
    rw [e1]; simp [h2]
def fl (l : List UInt8) (first : Nat) (mask : BitVec 32) : Nat → List UInt8
  | 0 => l
  | i + 1 => if mask.getLsbD i then flip (fl l first mask i) (first + i) else fl l first mask i
theorem fl_yes (l : List UInt8) (first : Nat) (mask : BitVec 32) (k : Nat) (y : UInt8) (hm : mask.getLsbD k = true) (hy : (fl l first mask k)[(first + k) / 8]? = some y) :
    fl l first mask (k + 1) = (fl l first mask k).set ((first + k) / 8) (x8 y ((first + k) % 8)) := by
  simp only [fl, hm, if_true, flip]; simp [List.getD, hy]
theorem fl_no (l : List UInt8) (first : Nat) (mask : BitVec 32) (k : Nat) (hm : mask.getLsbD k = false) : fl l first mask (k + 1) = fl l first mask k := by simp [fl, hm]
theorem fl_len (l : List UInt8) (first : Nat) (mask : BitVec 32) (i : Nat) : (fl l first mask i).length = l.length := by
  induction i with
  | zero => rfl
  | succ i ih => simp only [fl]; split <;> simp [flip_len, ih]
theorem fl_bit (l : List UInt8) (first : Nat) (mask : BitVec 32) (i : Nat) (hi : first + i ≤ 8 * l.length) (k : Nat) :
    Crc.bitAt (fl l first mask i) k = (Crc.bitAt l k ^^ (decide (first ≤ k) && decide (k < first + i) && mask.getLsbD (k - first))) := by
  induction i with
  | zero =>
    have : ¬ (first ≤ k ∧ k < first + 0) := by omega
    by_cases h1 : first ≤ k
    · simp [fl, show ¬ k < first by omega]
    · simp [fl, h1]
  | succ i ih =>
    have ih := ih (by omega)
    simp only [fl]
    by_cases hm : mask.getLsbD i = true
    · rw [if_pos hm, flip_bit _ _ _ (by rw [fl_len]; omega), ih]
      by_cases hk : k = first + i
      · subst hk
        simp [show ¬ first + i < first + i by omega, show first + i < first + (i + 1) by omega, show first + i - first = i by omega, hm]
      · have h2 : decide (k < first + (i + 1)) = decide (k < first + i) := by
          by_cases h : k < first + i
          · simp [h, show k < first + (i + 1) by omega]
          · simp [h, show ¬ k < first + (i + 1) by omega]
        rw [h2]; simp [hk]
    · rw [if_neg hm, ih]
      congr 1
      by_cases hk : k = first + i
      · subst hk
        simp only [Bool.not_eq_true] at hm
        simp [show first + i - first = i by omega, hm]
      · have h2 : decide (k < first + (i + 1)) = decide (k < first + i) := by
          by_cases h : k < first + i
          · simp [h, show k < first + (i + 1) by omega]
          · simp [h, show ¬ k < first + (i + 1) by omega]
        rw [h2]
theorem bitAt_tail (m : BitVec 32) (k : Nat) (hk : k < 32) : Crc.bitAt (tail m) k = m.getLsbD k := by
  have key : ∀ a b, b < 8 → (lo8 (bsr m (8 * a))).toNat.testBit b = m.getLsbD (8 * a + b) := by
    intro a b hb
    rw [lo8_nat, bsr_nat, show 256 = 2 ^ 8 by rfl, Nat.testBit_mod_two_pow, Nat.testBit_div_two_pow, BitVec.getLsbD, Nat.add_comm b]
    simp [hb]
  unfold Crc.bitAt tail
  have h0 : lo8 m = lo8 (bsr m (8 * 0)) := by unfold bsr; simp
  rw [h0]
  have hc : k / 8 = 0 ∨ k / 8 = 1 ∨ k / 8 = 2 ∨ k / 8 = 3 := by omega
  rcases hc with h | h | h | h <;> rw [h] <;> simp only [List.getD_cons_zero, List.getD_cons_succ]
  · rw [key 0 (k % 8) (by omega), show 8 * 0 + k % 8 = k by omega]
  · rw [key 1 (k % 8) (by omega), show 8 * 1 + k % 8 = k by omega]
  · rw [key 2 (k % 8) (by omega), show 8 * 2 + k % 8 = k by omega]
  · rw [key 3 (k % 8) (by omega), show 8 * 3 + k % 8 = k by omega]
theorem run_tail (r m : BitVec 32) : Crc.run r (tail m) = Crc.bits 32 (r ^^^ m) := by
  rw [Crc.run_bits, show 8 * (tail m).length = 0 + 32 by rfl, Crc.runF_add _ _ _ _ (by omega)]
  congr 1
  show r ^^^ _ = r ^^^ m
  congr 1
  apply BitVec.eq_of_getLsbD_eq
  intro i hi
  rw [Crc.wsum_bit _ _ _ (by omega), Nat.zero_add, bitAt_tail m i hi]; simp [hi]
/-- sealed bytes all leave one register -/
theorem run_sealed (bs : List UInt8) : Crc.run (BitVec.allOnes 32) (sealed bs) = Crc.bits 32 (BitVec.allOnes 32) := by
  unfold sealed
  rw [Crc.run_append, run_tail]
  congr 1
  unfold Crc.more
  rw [show ~~~ (0#32 : BitVec 32) = BitVec.allOnes 32 by decide]
  generalize Crc.run (BitVec.allOnes 32) bs = r
  rw [← BitVec.xor_allOnes, ← BitVec.xor_assoc, BitVec.xor_self]; simp
theorem sealed_len (bs : List UInt8) : (sealed bs).length = bs.length + 4 := by unfold sealed tail; simp
/-- of sealed bytes whose bits differ in a window of 32, nothing is opened -/
theorem opn_window (bs m : List UInt8) (hl : m.length = (sealed bs).length) (g : Nat → Bool) (hg : ∀ k, k < 8 * m.length → Crc.bitAt m k = (Crc.bitAt (sealed bs) k ^^ g k))
    (s : Nat) (hw : ∀ k, g k = true → s ≤ k ∧ k < s + 32) (h : ∃ k, k < 8 * m.length ∧ g k = true) : opn m = ([], 14) := by
  unfold opn
  rw [if_neg (by rw [hl, sealed_len]; omega), if_neg]
  intro e
  have h1 := run_sealed bs
  have h2 := run_sealed (m.take (m.length - 4))
  rw [← e] at h2
  exact Crc.run_window (BitVec.allOnes 32) (sealed bs) m hl.symm g (by rw [← hl]; exact hg) s hw (by rw [← hl]; exact h) (by rw [h1, h2])
theorem mask_some (mask : BitVec 32) (hm : mask ≠ 0#32) : ∃ i, i < 32 ∧ mask.getLsbD i = true := by
  by_cases h : ∃ i, i < 32 ∧ mask.getLsbD i = true
  · exact h
  · exact absurd (BitVec.eq_of_getLsbD_eq fun i hi => by
      cases hb : mask.getLsbD i
      · simp
      · exact absurd ⟨i, hi, hb⟩ h) hm
theorem opn_burst (bs : List UInt8) (first : Nat) (mask : BitVec 32) (hf : first + 32 ≤ 8 * (bs.length + 4)) (hm : mask ≠ 0#32) : opn (fl (sealed bs) first mask 32) = ([], 14) := by
  refine opn_window bs _ (fl_len _ _ _ _) (fun k => decide (first ≤ k) && decide (k < first + 32) && mask.getLsbD (k - first)) (fun k _ => fl_bit _ _ _ _ (by rw [sealed_len]; exact hf) k) first ?_ ?_
  · intro k hk
    simp only [Bool.and_eq_true, decide_eq_true_eq] at hk
    exact hk.1
  · obtain ⟨i, hi, hb⟩ := mask_some mask hm
    refine ⟨first + i, by rw [fl_len, sealed_len]; omega, ?_⟩
    simp [show first + i < first + 32 by omega, show first + i - first = i by omega, hb]
end Go.Proofs.YthhhiiagppckhaaGreatDoor
end
