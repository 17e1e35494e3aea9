/- The walks of the package check and of its reference: what each computes, in the words of the plain CRC text. -/
import Derived.Test.YtaaajmonabhdgaaDoorRows
import Derived.Test.YtaaajmonabhdgaaDoorU
import Derived.Test.YtaaajmonabhdgaaDoorSl
import Derived.Test.YtaaajmonabhdgaaDoorCrc
import Derived.WalkSpells
import Derived.WalkLawsBesides
namespace Go.Proofs.YtaaajmonabhdgaaDoor
open Go.RowKit Go.Proofs.U
set_option linter.unusedVariables false

/-- the table of the package check, as the world holds it -/
def Nib (w : World) : Prop := ∀ j, j < 16 → w.cell? ⟨0, j, none⟩ = some (.int .u32 ((Crc.nib j).toNat : Int))
theorem Nib.below {w w' : World} {B : Nat} (h : Nib w) (hb : Below B w w') (hB : 0 < B) : Nib w' := fun j hj => (hb.cell (p := ⟨0, j, none⟩) hB).trans (h j hj)

theorem ofI_byte (c : UInt8) : ofI ((c.toNat : Int) % 4294967296) = c.toBitVec.setWidth 32 := by
  unfold ofI
  apply BitVec.eq_of_toNat_eq
  have := c.toNat_lt
  rw [show ((c.toNat : Int) % 4294967296) = ((c.toNat : Nat) : Int) by omega, BitVec.ofInt_natCast, BitVec.toNat_ofNat, BitVec.toNat_setWidth]
  rfl
theorem step_byte (r : BitVec 32) (c : UInt8) :
    bx (bsr (bx (bsr (bx r (ofI ((c.toNat : Int) % 4294967296))) 4) (Crc.nib (ba (bx r (ofI ((c.toNat : Int) % 4294967296))) (ofI 15)).toNat)) 4)
      (Crc.nib (ba (bx (bsr (bx r (ofI ((c.toNat : Int) % 4294967296))) 4) (Crc.nib (ba (bx r (ofI ((c.toNat : Int) % 4294967296))) (ofI 15)).toNat)) (ofI 15)).toNat) = Crc.byte r c := by
  rw [ofI_byte]
  unfold bx bsr ba
  rw [show ofI 15 = 15#32 from by decide, Crc.nib_step, Crc.nib_step]
  unfold Crc.byte
  rw [← Crc.bits_add]
theorem run_snoc {r : BitVec 32} {l : List UInt8} {k : Nat} {c : UInt8} (h : l[k]? = some c) : Crc.run r (l.take (k + 1)) = Crc.byte (Crc.run r (l.take k)) c := by
  unfold Crc.run
  obtain ⟨hk, rfl⟩ := List.getElem?_eq_some_iff.1 h
  rw [List.take_succ_eq_append_getElem hk, List.foldl_append]; rfl
theorem more_eq (s : BitVec 32) (bs : List UInt8) : nt (Crc.run (nt s) bs) = Crc.more s bs := by
  rw [nt_eq, nt_eq]; rfl
theorem int_u32 {a b : BitVec 32} (h : a = b) : Value.int .u32 (a.toNat : Int) = Value.int .u32 (b.toNat : Int) := by rw [h]

set_option maxHeartbeats 400000 in
theorem more_any (s : BitVec 32) (A : Option Addr) (n c : Nat) (bs : List UInt8) (w : World) (B : Nat) (hb : BS w B A n bs) (hn : n ≤ maxLen) (hT : Nib w) :
    Calls Tryd.prog 16 #[.int .u32 (s.toNat : Int), .slice A n c] w fun e w' => e = .returned (.int .u32 ((Crc.more s bs).toNat : Int)) ∧ w = w' := by
  unfold maxLen at hn
  unfold Nib at hT
  go_enter Tryd.func16, Tryd.ntmps16
  go_wp2
  go_loop [0, 11] (fun t i => ∃ k : Nat, k ≤ n ∧ i = .int .i64 k ∧ t = .int .u32 ((Crc.run (nt s) (bs.take k)).toNat : Int)) (fun _ i => n - (intOf i).toNat)
  case atStart => exact ⟨0, Nat.zero_le _, rfl, rfl⟩
  case round =>
    obtain ⟨k, hk, rfl, rfl⟩ := hrel
    by_cases hlt : k < n
    · obtain ⟨b, off, c, rfl, hbB, hx, hc⟩ := hb.at_ hlt
      go_wp2
      go_round
      case rel => exact ⟨k + 1, by omega, by go_num, int_u32 (by rw [run_snoc hx, step_byte])⟩
      case measure => simp [intOf]; omega
    · go_wp2
      go_ret
      refine ⟨congrArg Ending.returned (int_u32 ?_), rfl⟩
      rw [List.take_of_length_le (by have := hb.1; omega)]
      exact more_eq _ _

set_option maxHeartbeats 400000 in
theorem sum_any (A : Option Addr) (n c : Nat) (bs : List UInt8) (w : World) (B : Nat) (hb : BS w B A n bs) (hn : n ≤ maxLen) (hT : Nib w) :
    Calls Tryd.prog 14 #[.slice A n c] w fun e w' => e = .returned (.int .u32 ((Crc.more 0#32 bs).toNat : Int)) ∧ w = w' := by
  go_enter Tryd.func14, Tryd.ntmps14
  go_wp2_with (go_at_call 16; refine (more_any 0#32 _ _ _ bs _ B hb hn hT).mono ?_; rintro e w' ⟨rfl, rfl⟩)
  go_ret
  exact ⟨rfl, rfl⟩

/-! the reference -/
theorem bit_t {r : BitVec 32} (h : lsb0 r = true) : bx (bsr r 1) (ofI 2197175160) = Crc.bit r := by
  unfold lsb0 at h; rw [Crc.bit_eq, h]; rfl
theorem bit_f {r : BitVec 32} (h : lsb0 r = false) : bsr r 1 = Crc.bit r := by
  unfold lsb0 at h; rw [Crc.bit_eq, h]; simp [bsr]

set_option maxHeartbeats 400000 in
theorem rmore_any (s : BitVec 32) (A : Option Addr) (n c : Nat) (bs : List UInt8) (w : World) (B : Nat) (hb : BS w B A n bs) (hn : n ≤ maxLen) :
    Calls Tryd.prog 17 #[.int .u32 (s.toNat : Int), .slice A n c] w fun e w' => e = .returned (.int .u32 ((Crc.more s bs).toNat : Int)) ∧ w = w' := by
  unfold maxLen at hn
  go_enter Tryd.func17, Tryd.ntmps17
  go_wp2
  go_loop [5, 6] (fun t i => ∃ k : Nat, k ≤ n ∧ i = .int .i64 k ∧ t = .int .u32 ((Crc.run (nt s) (bs.take k)).toNat : Int)) (fun _ i => n - (intOf i).toNat)
  case atStart => exact ⟨0, Nat.zero_le _, rfl, rfl⟩
  case round =>
    obtain ⟨k, hk, rfl, rfl⟩ := hrel
    by_cases hlt : k < n
    · obtain ⟨b, off, c, rfl, hbB, hx, hc⟩ := hb.at_ hlt
      go_wp2
      go_loop [5, 7] (fun t i => ∃ j : Nat, j ≤ 8 ∧ i = .int .i64 j ∧ t = .int .u32 ((Crc.bits j (bx (Crc.run (nt s) (bs.take k)) (ofI ((c.toNat : Int) % 4294967296)))).toNat : Int)) (fun _ i => 8 - (intOf i).toNat)
      case atStart => exact ⟨0, Nat.zero_le _, rfl, rfl⟩
      case round =>
        obtain ⟨j, hj, rfl, rfl⟩ := hrel
        by_cases hlt' : j < 8
        · cases hbit : lsb0 (Crc.bits j (bx (Crc.run (nt s) (bs.take k)) (ofI ((c.toNat : Int) % 4294967296))))
          all_goals
            go_wp2
            go_round
            case rel => exact ⟨j + 1, by omega, by go_num, int_u32 (by rw [Crc.bits_succ]; first | exact bit_f hbit | exact bit_t hbit)⟩
            case measure => simp [intOf]; omega
        · have e8 : j = 8 := by omega
          subst e8
          go_wp2
          go_round
          case rel => exact ⟨k + 1, by omega, by go_num, int_u32 (by rw [run_snoc hx, ofI_byte]; rfl)⟩
          case measure => simp [intOf]; omega
    · go_wp2
      go_ret
      refine ⟨congrArg Ending.returned (int_u32 ?_), rfl⟩
      rw [List.take_of_length_le (by have := hb.1; omega)]
      exact more_eq _ _

set_option maxHeartbeats 400000 in
theorem rsum_any (A : Option Addr) (n c : Nat) (bs : List UInt8) (w : World) (B : Nat) (hb : BS w B A n bs) (hn : n ≤ maxLen) :
    Calls Tryd.prog 15 #[.slice A n c] w fun e w' => e = .returned (.int .u32 ((Crc.more 0#32 bs).toNat : Int)) ∧ w = w' := by
  go_enter Tryd.func15, Tryd.ntmps15
  go_wp2_with (go_at_call 17; refine (rmore_any 0#32 _ _ _ bs _ B hb hn).mono ?_; rintro e w' ⟨rfl, rfl⟩)
  go_ret
  exact ⟨rfl, rfl⟩

/-- the sum as bytes, the lowest first; what is sealed -/
def tail (s : BitVec 32) : List UInt8 := [lo8 s, lo8 (bsr s 8), lo8 (bsr s 16), lo8 (bsr s 24)]
def sealed (bs : List UInt8) : List UInt8 := bs ++ tail (Crc.more 0#32 bs)

set_option maxHeartbeats 400000 in
theorem seal_any (A : Option Addr) (n c : Nat) (bs : List UInt8) (w : World) (hb : BS w w.heap.size A n bs) (hn : n ≤ 140737488355300) (hT : Nib w) :
    Calls Tryd.prog 19 #[.slice A n c] w (OwnRet 5 w (n + 4) (sealed bs)) := by
  have hm : n ≤ maxLen := by unfold maxLen; omega
  go_enter Tryd.func19, Tryd.ntmps19
  go_wp2_with (first
    | (go_at_call 14; refine (sum_any _ _ _ bs _ _ hb hm hT).mono ?_; rintro e w' ⟨rfl, rfl⟩)
    | (go_at_call 41; refine (clone_any _ _ _ bs _ _ hb (Nat.le_refl _) (by omega)).mono ?_; rintro e w1 ⟨A1, c1, rfl, hown1, hb1⟩)
    | (at_builtin; refine wpList_app bt rfl _ _ rfl w.heap.size _ _ _ bs rfl (hown1.alloc _) (w1.heap.size + 1) _ 4 _ (tail (Crc.more 0#32 bs)) rfl (BS.new w1 5 (tail (Crc.more 0#32 bs))) (by omega) (by have := hb1.size; simp; omega) ?_; intro A2 c2 w2 hown2 hg2 _))
  go_ret
  exact ⟨A2, c2, by simp, hown2, below_of_grown (hb1.alloc hb1.size _) (by have := hb1.size; simp; omega) (hown1.alloc _) (Nat.le_refl _) hg2⟩

set_option maxHeartbeats 400000 in
theorem rseal_any (A : Option Addr) (n c : Nat) (bs : List UInt8) (w : World) (hb : BS w w.heap.size A n bs) (hn : n ≤ 140737488355300) :
    Calls Tryd.prog 20 #[.slice A n c] w (OwnRet 5 w (n + 4) (sealed bs)) := by
  have hm : n ≤ maxLen := by unfold maxLen; omega
  go_enter Tryd.func20, Tryd.ntmps20
  go_wp2_with (first
    | (go_at_call 15; refine (rsum_any _ _ _ bs _ _ hb hm).mono ?_; rintro e w' ⟨rfl, rfl⟩)
    | (at_builtin; refine wpList_app bt rfl (.tmp 7) (.tmp 8) rfl w.heap.size _ _ _ [] rfl (Own.made w _ _ (Nat.le_refl _)) _ _ _ _ bs rfl (hb.alloc (Nat.le_refl _) _) (by omega) (by simp) ?_; intro A1 c1 w1 hown1 hg1 _; have hb1 : Below w.heap.size w w1 := below_of_grown ((Below.refl _ _).alloc (Nat.le_refl _) _) (by simp) (Own.made w _ _ (Nat.le_refl _)) (Nat.le_refl _) hg1; simp only [Nat.zero_add, List.nil_append] at hown1)
    | (at_builtin; refine wpList_app bt rfl (.tmp 10) (.tmp 25) rfl w.heap.size _ _ _ bs rfl (hown1.alloc _) (w1.heap.size + 1) _ 4 _ (tail (Crc.more 0#32 bs)) rfl (BS.new w1 5 (tail (Crc.more 0#32 bs))) (by omega) (by have := hb1.size; simp; omega) ?_; intro A2 c2 w2 hown2 hg2 _))
  go_ret
  exact ⟨A2, c2, by simp, hown2, below_of_grown (hb1.alloc hb1.size _) (by have := hb1.size; simp; omega) (hown1.alloc _) (Nat.le_refl _) hg2⟩
end Go.Proofs.YtaaajmonabhdgaaDoor
