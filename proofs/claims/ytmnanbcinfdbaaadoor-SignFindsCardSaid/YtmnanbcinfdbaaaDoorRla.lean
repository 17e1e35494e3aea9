/- The walks of the small functions of the package roll, and of Sum; conditions: none beyond their hypotheses. -/
import Derived.Test.YtmnanbcinfdbaaaDoorRows
import Derived.Test.YtmnanbcinfdbaaaDoorU
namespace Go.Proofs.YtmnanbcinfdbaaaDoor
open Go.RowKit Go.Proofs.U
set_option linter.unusedVariables false

/-- both halves of a weak sum as a value; a number modulo 2^16 -/
def hv (a b : Int) : Value := .agg #[.int .u16 a, .int .u16 b]
def md (x : Int) : Int := x % 65536
theorem md_lo (x : Int) : 0 ≤ md x := by unfold md; omega
theorem md_hi (x : Int) : md x < 65536 := by unfold md; omega
def HvRet (w : World) (a b : Int) (e : Ending) (w' : World) : Prop := e = .returned (hv a b) ∧ Below w.heap.size w w'
def U32Ret (w : World) (s : Int) (e : Ending) (w' : World) : Prop := e = .returned (.int .u32 s) ∧ Below w.heap.size w w'
theorem wr (x : Int) : IntKind.u16.wrap x = md x := IntKind.wrap_u16 x
theorem byte_md (c : UInt8) : md (c.toNat : Int) = (c.toNat : Int) := by have := c.toNat_lt; unfold md; omega

set_option maxHeartbeats 400000 in
theorem hopen_any (s : Int) (h0 : 0 ≤ s) (hs : s < 4294967296) (w : World) :
    Calls Tryd.prog 107 #[.int .u32 s] w (HvRet w (md s) (md (s / 65536))) := by
  go_enter Tryd.func107, Tryd.ntmps107
  go_wp2_with fail
  refine bodyPost_ret (v := hv (md s) (md (s / 65536))) ?_ rfl ⟨rfl, (Below.refl _ _).alloc (Nat.le_refl _) _⟩
  simp [results, Tryd.results107, go_sem, hv, wr]
  all_goals (unfold md; omega)

theorem join_nat (a b : Int) (ha : 0 ≤ a) (ha2 : a < 65536) (hb : 0 ≤ b) (hb2 : b < 65536) : ((bo (ofI a) (ofI (b * 65536))).toNat : Int) = a + 65536 * b := by
  obtain ⟨x, rfl⟩ := Int.eq_ofNat_of_zero_le ha
  obtain ⟨y, rfl⟩ := Int.eq_ofNat_of_zero_le hb
  rw [show ((y : Int) * 65536) = ((y * 65536 : Nat) : Int) by omega]
  unfold bo ofI
  rw [BitVec.toNat_or, BitVec.ofInt_natCast, BitVec.ofInt_natCast, BitVec.toNat_ofNat, BitVec.toNat_ofNat, Nat.mod_eq_of_lt (by omega), Nat.mod_eq_of_lt (by omega), Nat.or_comm,
    nat_join 16 (y * 65536) x (by omega) (by omega)]
  omega

set_option maxHeartbeats 400000 in
theorem hsum_any (a b : Int) (ha : 0 ≤ a) (ha2 : a < 65536) (hb : 0 ≤ b) (hb2 : b < 65536) (w : World) :
    Calls Tryd.prog 106 #[.agg #[.int .u16 a, .int .u16 b]] w (U32Ret w (a + 65536 * b)) := by
  go_enter Tryd.func106, Tryd.ntmps106
  go_wp2_with fail
  go_ret
  refine ⟨?_, (Below.refl _ _).alloc (Nat.le_refl _) _⟩
  exact congrArg (fun x => Ending.returned (Value.int .u32 x)) (join_nat a b ha ha2 hb hb2)

set_option maxHeartbeats 400000 in
theorem hpush_any (a b : Int) (c : UInt8) (w : World) :
    Calls Tryd.prog 105 #[.agg #[.int .u16 a, .int .u16 b], .int .u8 (c.toNat : Int)] w (HvRet w (md (a + c.toNat)) (md (b + a + c.toNat))) := by
  go_enter Tryd.func105, Tryd.ntmps105
  go_wp2_with fail
  refine bodyPost_ret (v := hv (md (a + c.toNat)) (md (b + a + c.toNat))) ?_ rfl ⟨rfl, ((Below.refl _ _).alloc (Nat.le_refl _) _).alloc (by simp) _⟩
  simp [results, Tryd.results105, go_sem, hv, wr, byte_md]
  unfold md; omega

theorem md_mul (n : Int) (c : Int) : md (md n * c) = md (n * c) := by unfold md; rw [Int.mul_emod, Int.emod_emod_of_dvd _ (by omega), ← Int.mul_emod]
theorem md_mul' (n c : Int) : md (n * md c) = md (n * c) := by rw [Int.mul_comm, md_mul, Int.mul_comm]
theorem md_sub (b x : Int) : md (b - md x) = md (b - x) := by unfold md; omega
theorem md_add (b x : Int) : md (b + md x) = md (b + x) := by unfold md; omega

set_option maxHeartbeats 400000 in
theorem hpop_any (a b : Int) (n : Int) (c : UInt8) (w : World) :
    Calls Tryd.prog 109 #[.agg #[.int .u16 a, .int .u16 b], .int .i64 n, .int .u8 (c.toNat : Int)] w (HvRet w (md (a - c.toNat)) (md (b - n * c.toNat))) := by
  go_enter Tryd.func109, Tryd.ntmps109
  go_wp2_with fail
  refine bodyPost_ret (v := hv (md (a - c.toNat)) (md (b - n * c.toNat))) ?_ rfl ⟨rfl, ((Below.refl _ _).alloc (Nat.le_refl _) _).alloc (by simp) _⟩
  simp [results, Tryd.results109, go_sem, hv, wr, byte_md, md_mul, md_sub]

/-- the weak sum of bytes, half by half -/
def ra (bs : List UInt8) : Int := bs.foldl (fun x c => x + (c.toNat : Int)) 0
def rb : List UInt8 → Int
  | [] => 0
  | c :: l => (l.length + 1 : Nat) * (c.toNat : Int) + rb l
def rsum (bs : List UInt8) : Int := md (ra bs) + 65536 * md (rb bs)
theorem ra_acc (l : List UInt8) (x : Int) : l.foldl (fun x c => x + (c.toNat : Int)) x = x + ra l := by
  unfold ra
  induction l generalizing x with
  | nil => simp
  | cons c l ih => simp only [List.foldl_cons]; rw [ih (x + c.toNat), ih (0 + (c.toNat : Int))]; omega
theorem ra_cons (c : UInt8) (l : List UInt8) : ra (c :: l) = c.toNat + ra l := by
  unfold ra; simp only [List.foldl_cons]; rw [ra_acc]; unfold ra; omega
theorem ra_append (l m : List UInt8) : ra (l ++ m) = ra l + ra m := by
  induction l with
  | nil => simp [ra]
  | cons c l ih => rw [List.cons_append, ra_cons, ra_cons, ih]; omega
theorem rb_append (l m : List UInt8) : rb (l ++ m) = rb l + rb m + m.length * ra l := by
  induction l with
  | nil => simp [rb, ra]
  | cons c l ih =>
    rw [List.cons_append]
    simp only [rb, ih, ra_cons, List.length_append]
    push_cast
    rw [Int.mul_add, Int.add_mul, Int.add_mul, Int.add_mul]
    omega
theorem ra_snoc (l : List UInt8) (c : UInt8) : ra (l ++ [c]) = ra l + c.toNat := by rw [ra_append]; simp [ra]
theorem rb_snoc (l : List UInt8) (c : UInt8) : rb (l ++ [c]) = rb l + ra l + c.toNat := by rw [rb_append]; simp [rb]; omega
theorem take_snoc {l : List UInt8} {k : Nat} {c : UInt8} (h : l[k]? = some c) : l.take (k + 1) = l.take k ++ [c] := by
  obtain ⟨hk, rfl⟩ := List.getElem?_eq_some_iff.1 h
  exact List.take_succ_eq_append_getElem hk
theorem step_a (l : List UInt8) (c : UInt8) : md (md (ra l) + c.toNat) = md (ra (l ++ [c])) := by rw [ra_snoc]; unfold md; omega
theorem step_b (l : List UInt8) (c : UInt8) : md (md (rb l) + md (ra l) + c.toNat) = md (rb (l ++ [c])) := by rw [rb_snoc]; unfold md; omega

set_option maxHeartbeats 400000 in
theorem rsum_any (A : Option Addr) (n c : Nat) (bs : List UInt8) (w : World) (B : Nat) (hb : BS w B A n bs) (hB : B ≤ w.heap.size) (hn : n ≤ maxLen) :
    Calls Tryd.prog 71 #[.slice A n c] w (U32Ret w (rsum bs)) := by
  unfold maxLen at hn
  go_enter Tryd.func71, Tryd.ntmps71
  go_wp2_with fail
  go_loopw [8] (fun i wr => ∃ k : Nat, k ≤ n ∧ i = .int .i64 k ∧ Blk wr w.heap.size 137 #[.int .u16 (md (ra (bs.take k))), .int .u16 (md (rb (bs.take k)))] ∧ Below w.heap.size w wr) (fun i _ => n - (intOf i).toNat)
  case atStart => exact ⟨0, Nat.zero_le _, rfl, Blk.new _ _ _, (Below.refl _ _).alloc (Nat.le_refl _) _⟩
  case round =>
    obtain ⟨k, hk, rfl, hblk, hbw⟩ := hrel
    obtain ⟨wo, rfl⟩ : ∃ wo : World, wo = wr := ⟨_, rfl⟩
    have h0 : wo.cell? ⟨w.heap.size, 0, none⟩ = some (.int .u16 (md (ra (bs.take k)))) := hblk.cell 0
    have h1 : wo.cell? ⟨w.heap.size, 1, none⟩ = some (.int .u16 (md (rb (bs.take k)))) := hblk.cell 1
    by_cases hlt : k < n
    · obtain ⟨b, off, x, rfl, hbB, hx, hc⟩ := (hb.keep (fun p hp => hbw.cell (Nat.lt_of_lt_of_le hp hB))).at_ hlt
      have Hx := Lib.hid hx
      clear hx
      go_wp2_with fail
      refine (hpush_any _ _ x _).mono ?_
      rintro e w1 ⟨rfl, hb1⟩
      have hblk1 := hblk.stay hb1
      have k0 : w1.cell? ⟨w.heap.size, 0, none⟩ = some (.int .u16 (md (ra (bs.take k)))) := hblk1.cell 0
      have k1 : w1.cell? ⟨w.heap.size, 1, none⟩ = some (.int .u16 (md (rb (bs.take k)))) := hblk1.cell 1
      have f0 := hblk1.frozen 0
      have f1 := hblk1.frozen 1
      unfold hv
      go_wp2_with fail
      go_roundw
      case rel => exact ⟨k + 1, by omega, by go_num, by rw [take_snoc Hx.out, ← step_a, ← step_b]; exact (hblk1.set_ 0 _).set_ 1 _, ((hbw.trans (hb1.mono hbw.size)).setCell (Nat.le_refl _) _).setCell (Nat.le_refl _) _⟩
      case measure => simp [intOf]; omega
    · go_wp2_with fail
      refine (hsum_any _ _ (md_lo _) (md_hi _) (md_lo _) (md_hi _) _).mono ?_
      rintro e w1 ⟨rfl, hb1⟩
      go_wp2_with fail
      go_ret
      refine ⟨?_, hbw.trans (hb1.mono hbw.size)⟩
      rw [List.take_of_length_le (by have := hb.1; omega)]
      rfl

/-! sums with a byte more, or less, or both; of two parts -/
def lo (s : Int) : Int := md s
def hi (s : Int) : Int := md (s / 65536)
def join (a b : Int) : Int := md a + 65536 * md b
def pushS (s : Int) (c : UInt8) : Int := join (lo s + c.toNat) (hi s + lo s + c.toNat)
def popS (s n : Int) (c : UInt8) : Int := join (lo s - c.toNat) (hi s - n * c.toNat)
def joinS (s t n : Int) : Int := join (lo s + lo t) (hi s + hi t + n * lo s)
theorem join_bd (a b : Int) : 0 ≤ join a b ∧ join a b < 4294967296 := by unfold join md; omega
theorem lo_join (a b : Int) : lo (join a b) = md a := by unfold lo join md; omega
theorem hi_join (a b : Int) : hi (join a b) = md b := by unfold hi join md; omega

theorem rsum_bd (bs : List UInt8) : 0 ≤ rsum bs ∧ rsum bs < 4294967296 := by unfold rsum md; omega
theorem lo_rsum (l : List UInt8) : lo (rsum l) = md (ra l) := by unfold lo rsum md; omega
theorem hi_rsum (l : List UInt8) : hi (rsum l) = md (rb l) := by unfold hi rsum md; omega
end Go.Proofs.YtmnanbcinfdbaaaDoor
