/- The walks of the package check and of its reference: what each computes, in the words of the plain CRC text. -/
import Derived.Test.YthhhiiagppckhaaDoorRows
import Derived.Test.YthhhiiagppckhaaDoorU
import Derived.Test.YthhhiiagppckhaaDoorSl
import Derived.Test.YthhhiiagppckhaaDoorCrc
import Derived.WalkSpells
import Derived.WalkLawsBesides
namespace Go.Proofs.YthhhiiagppckhaaDoor
open Go.RowKit Go.Proofs.U
set_option linter.unusedVariables false

/-- the table of the package check, as the world holds it -/
def Nib (w : World) : Prop := ∀ j, j < 16 → w.cell? ⟨1, j, none⟩ = some (.int .u32 ((Crc.nib j).toNat : Int))
theorem Nib.below {w w' : World} {B : Nat} (h : Nib w) (hb : Below B w w') (hB : 1 < B) : Nib w' := fun j hj => (hb.cell (p := ⟨1, j, none⟩) hB).trans (h j hj)

theorem ofI_byte (c : UInt8) : ofI ((c.toNat : Int) % 4294967296) = c.toBitVec.setWidth 32 := by
  unfold ofI
  apply BitVec.eq_of_toNat_eq
  have := c.toNat_lt
  rw [show ((c.toNat : Int) % 4294967296) = ((c.toNat : Nat) : Int) by omega, BitVec.ofInt_natCast, BitVec.toNat_ofNat, BitVec.toNat_setWidth]
  rfl
theorem step_byte (r : BitVec 32) (c : UInt8) :
    bx (bsr (bx (bsr (bx r (ofI ((c.toNat : Int) % 4294967296))) 4) (Crc.nib (ba (bx r (ofI ((c.toNat : Int) % 4294967296))) (ofI 15)).toNat)) 4)
      (Crc.nib (ba (bx (bsr (bx r (ofI ((c.toNat : Int) % 4294967296))) 4) (Crc.nib (ba (bx r (ofI ((c.toNat : Int) % 4294967296))) (ofI 15)).toNat)) (ofI 15)).toNat) = Crc.byte r c := by
  rw [ofI_byte]
  unfold bx bsr ba
  rw [show ofI 15 = 15#32 from by decide, Crc.nib_step, Crc.nib_step]
  unfold Crc.byte
  rw [← Crc.bits_add]
theorem run_snoc {r : BitVec 32} {l : List UInt8} {k : Nat} {c : UInt8} (h : l[k]? = some c) : Crc.run r (l.take (k + 1)) = Crc.byte (Crc.run r (l.take k)) c := by
  unfold Crc.run
  obtain ⟨hk, rfl⟩ := List.getElem?_eq_some_iff.1 h
  rw [List.take_succ_eq_append_getElem hk, List.foldl_append]; rfl
theorem more_eq (s : BitVec 32) (bs : List UInt8) : nt (Crc.run (nt s) bs) = Crc.more s bs := by
  rw [nt_eq, nt_eq]; rfl
theorem int_u32 {a b : BitVec 32} (h : a = b) : Value.int .u32 (a.toNat : Int) = Value.int .u32 (b.toNat : Int) := by rw [h]

set_option maxHeartbeats 400000 in
theorem more_any (s : BitVec 32) (A : Option Addr) (n c : Nat) (bs : List UInt8) (w : World) (B : Nat) (hb : BS w B A n bs) (hn : n ≤ maxLen) (hT : Nib w) :
    Calls Tryd.prog 110 #[.int .u32 (s.toNat : Int), .slice A n c] w fun e w' => e = .returned (.int .u32 ((Crc.more s bs).toNat : Int)) ∧ w = w' := by
  unfold maxLen at hn
  unfold Nib at hT
  go_enter Tryd.func110, Tryd.ntmps110
  go_wp2
  go_loop [0, 11] (fun t i => ∃ k : Nat, k ≤ n ∧ i = .int .i64 k ∧ t = .int .u32 ((Crc.run (nt s) (bs.take k)).toNat : Int)) (fun _ i => n - (intOf i).toNat)
  case atStart => exact ⟨0, Nat.zero_le _, rfl, rfl⟩
  case round =>
    obtain ⟨k, hk, rfl, rfl⟩ := hrel
    by_cases hlt : k < n
    · obtain ⟨b, off, c, rfl, hbB, hx, hc⟩ := hb.at_ hlt
      go_wp2
      go_round
      case rel => exact ⟨k + 1, by omega, by go_num, int_u32 (by rw [run_snoc hx, step_byte])⟩
      case measure => simp [intOf]; omega
    · go_wp2
      go_ret
      refine ⟨congrArg Ending.returned (int_u32 ?_), rfl⟩
      rw [List.take_of_length_le (by have := hb.1; omega)]
      exact more_eq _ _

set_option maxHeartbeats 400000 in
theorem sum_any (A : Option Addr) (n c : Nat) (bs : List UInt8) (w : World) (B : Nat) (hb : BS w B A n bs) (hn : n ≤ maxLen) (hT : Nib w) :
    Calls Tryd.prog 95 #[.slice A n c] w fun e w' => e = .returned (.int .u32 ((Crc.more 0#32 bs).toNat : Int)) ∧ w = w' := by
  go_enter Tryd.func95, Tryd.ntmps95
  go_wp2_with (go_at_call 110; refine (more_any 0#32 _ _ _ bs _ B hb hn hT).mono ?_; rintro e w' ⟨rfl, rfl⟩)
  go_ret
  exact ⟨rfl, rfl⟩

/-! the reference -/
/-- the sum as bytes, the lowest first; what is sealed -/
def tail (s : BitVec 32) : List UInt8 := [lo8 s, lo8 (bsr s 8), lo8 (bsr s 16), lo8 (bsr s 24)]
def sealed (bs : List UInt8) : List UInt8 := bs ++ tail (Crc.more 0#32 bs)

set_option maxHeartbeats 400000 in
theorem seal_any (A : Option Addr) (n c : Nat) (bs : List UInt8) (w : World) (hb : BS w w.heap.size A n bs) (hn : n ≤ 140737488355300) (hT : Nib w) :
    Calls Tryd.prog 65 #[.slice A n c] w (OwnRet 5 w (n + 4) (sealed bs)) := by
  have hm : n ≤ maxLen := by unfold maxLen; omega
  go_enter Tryd.func65, Tryd.ntmps65
  go_wp2_with (first
    | (go_at_call 95; refine (sum_any _ _ _ bs _ _ hb hm hT).mono ?_; rintro e w' ⟨rfl, rfl⟩)
    | (go_at_call 86; refine (clone_any _ _ _ bs _ _ hb (Nat.le_refl _) (by omega)).mono ?_; rintro e w1 ⟨A1, c1, rfl, hown1, hb1⟩)
    | (at_builtin; refine wpList_app bt rfl _ _ rfl w.heap.size _ _ _ bs rfl (hown1.alloc _) (w1.heap.size + 1) _ 4 _ (tail (Crc.more 0#32 bs)) rfl (BS.new w1 5 (tail (Crc.more 0#32 bs))) (by omega) (by have := hb1.size; simp; omega) ?_; intro A2 c2 w2 hown2 hg2 _))
  go_ret
  exact ⟨A2, c2, by simp, hown2, below_of_grown (hb1.alloc hb1.size _) (by have := hb1.size; simp; omega) (hown1.alloc _) (Nat.le_refl _) hg2⟩

theorem Nib.lt {w : World} (h : Nib w) : 1 < w.heap.size := World.block_lt_of_cell? w _ (h 0 (by decide))
theorem Nib.stay {w w' : World} (h : Nib w) (hb : Below w.heap.size w w') : Nib w' := h.below hb h.lt
end Go.Proofs.YthhhiiagppckhaaDoor
