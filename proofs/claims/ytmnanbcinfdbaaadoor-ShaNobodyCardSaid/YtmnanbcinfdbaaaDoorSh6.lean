/- The walks of sha.eight; conditions: none beyond its hypotheses. -/
import Derived.Test.YtmnanbcinfdbaaaDoorSh5
namespace Go.Proofs.YtmnanbcinfdbaaaDoor
open Go.RowKit Go.Proofs.U
set_option linter.unusedVariables false

section
variable {P : Program} {w : World}
/-- make of bytes, all of it there -/
theorem wpList_makeb {t e : TypeId} (hB : Bt P t e) {ops : Array Oper} {rest : List Oper} {o : Oper} {a : Act} {Q : Exit → Act → World → Prop} (hg : o.guard = none) (l c : Operand) (hop : o.op = Op.makeSlice t l c)
    (n : Nat) (L : Int) (hl : a.eval l = .int .i64 L) (hc : a.eval c = .int .i64 L) (hL : L = (n : Int)) (b2 : n ≤ 140737488355328)
    (hK : ∀ w', Own w' w.heap.size e (some ⟨w.heap.size, 0, none⟩) n n (List.replicate n 0) → Below w.heap.size w w' → wpList P ops Q rest (a.put o.dst (.slice (some ⟨w.heap.size, 0, none⟩) n n)) w') :
    wpList P ops Q (o :: rest) a w := by
  obtain ⟨i, hi, hz, hs, hby⟩ := info_parts hB.hi
  refine wpList_make_full w hg l c t hop w.heap.size e i (.int .u8 0) 1 hB.ht hi hz hs .i64 .i64 L L n hl hc hL hL (by rw [hby]; omega) (by unfold maxLen; omega) (Nat.le_refl _) fun w' h1 h2 => ?_
  refine hK w' ?_ ⟨h2.os, h2.tape, h2.output, h2.size, fun k hk => h2.block k hk (by simp)⟩
  unfold Own
  have e : (madeCells (Value.int .u8 0).cells (n * 1)).toList = (List.replicate n (0 : UInt8)).map bv := by
    rw [show (Value.int .u8 0).cells = #[.int .u8 0] from rfl, toList_madeCells_one, List.map_replicate, Nat.mul_one]; rfl
  rw [← e]; exact h1
end
def e8 (n k : Nat) : List UInt8 := (Sh.eightb n).take k ++ List.replicate (8 - k) 0
theorem e8_set (n k : Nat) (h : k < 8) : (e8 n k).set k (UInt8.ofNat (n / 256 ^ (7 - k))) = e8 n (k + 1) := by
  match k, h with
  | 0, _ => rfl
  | 1, _ => rfl
  | 2, _ => rfl
  | 3, _ => rfl
  | 4, _ => rfl
  | 5, _ => rfl
  | 6, _ => rfl
  | 7, _ => rfl
theorem e8_at (n k : Nat) (h : k < 8) : ∃ v, (e8 n k)[k]? = some v := by
  have : k < (e8 n k).length := by simp [e8, Sh.eightb_len]; omega
  exact ⟨_, List.getElem?_eq_getElem this⟩
theorem byte_of (n d : Nat) (D : Int) (hD : D = (d : Int)) : ((n : Int) / D) % 256 = ((UInt8.ofNat (n / d)).toNat : Int) := by
  subst hD; rw [UInt8.toNat_ofNat', ← Int.natCast_ediv]; omega

set_option maxRecDepth 100000 in
set_option maxHeartbeats 4000000 in
theorem eight_any (n : Nat) (hn : n ≤ 9223372036854775807) (w : World) : Calls Tryd.prog 68 #[.int .i64 (n : Int)] w (OwnRet 5 w 8 (Sh.eightb n)) := by
  have hcv : IntKind.u64.wrap (n : Int) = (n : Int) := by rw [IntKind.wrap_u64]; omega
  go_enter Tryd.func68, Tryd.ntmps68
  go_wp2_with (refine wpList_makeb bt rfl _ _ rfl 8 _ rfl rfl rfl (by omega) ?_; intro w1 hown1 hb1)
  go_loopg [8] 8 (fun r i wr => ∃ k : Nat, r + k = 8 ∧ i = .int .i64 k ∧ Own wr w.heap.size 5 (some ⟨w.heap.size, 0, none⟩) 8 8 (e8 n k) ∧ Below w.heap.size w wr)
  case atStart => exact ⟨0, rfl, rfl, hown1, hb1⟩
  case round =>
    obtain ⟨k, hk, rfl, hown, hbw⟩ := hrel
    have HK := Lib.hid hk
    by_cases h8 : k < 8
    · obtain ⟨v, hv⟩ := e8_at n k h8
      have hv := hown.cellAt k v hv
      have hfr := hown.free k
      have hset := e8_set n k h8
      have HS := Lib.hid hset
      clear hset hk
      have hks : k = 0 ∨ k = 1 ∨ k = 2 ∨ k = 3 ∨ k = 4 ∨ k = 5 ∨ k = 6 ∨ k = 7 := by omega
      rcases hks with rfl | rfl | rfl | rfl | rfl | rfl | rfl | rfl
      · go_wp2_with fail
        have e : ((n : Int) / 72057594037927936) = ((UInt8.ofNat (n / 256 ^ (7 - 0))).toNat : Int) := by rw [UInt8.toNat_ofNat', show 256 ^ (7 - 0) = 72057594037927936 from by decide]; omega
        go_roundg (gk - 1)
        case measure => have := HK.out; omega
        case rel =>
          refine ⟨1, by have := HK.out; omega, rfl, ?_, hbw.setCell (by simp) _⟩
          have h1 := hown.set 0 (UInt8.ofNat (n / 256 ^ (7 - 0)))
          rw [HS.out, ← e] at h1
          exact h1
      · go_wp2_with fail
        have e : ((n : Int) / 281474976710656 % 256) = ((UInt8.ofNat (n / 256 ^ (7 - 1))).toNat : Int) := by rw [UInt8.toNat_ofNat', show 256 ^ (7 - 1) = 281474976710656 from by decide]; omega
        go_roundg (gk - 1)
        case measure => have := HK.out; omega
        case rel =>
          refine ⟨2, by have := HK.out; omega, rfl, ?_, hbw.setCell (by simp) _⟩
          have h1 := hown.set 1 (UInt8.ofNat (n / 256 ^ (7 - 1)))
          rw [HS.out, ← e] at h1
          exact h1
      · go_wp2_with fail
        have e : ((n : Int) / 1099511627776 % 256) = ((UInt8.ofNat (n / 256 ^ (7 - 2))).toNat : Int) := by rw [UInt8.toNat_ofNat', show 256 ^ (7 - 2) = 1099511627776 from by decide]; omega
        go_roundg (gk - 1)
        case measure => have := HK.out; omega
        case rel =>
          refine ⟨3, by have := HK.out; omega, rfl, ?_, hbw.setCell (by simp) _⟩
          have h1 := hown.set 2 (UInt8.ofNat (n / 256 ^ (7 - 2)))
          rw [HS.out, ← e] at h1
          exact h1
      · go_wp2_with fail
        have e : ((n : Int) / 4294967296 % 256) = ((UInt8.ofNat (n / 256 ^ (7 - 3))).toNat : Int) := by rw [UInt8.toNat_ofNat', show 256 ^ (7 - 3) = 4294967296 from by decide]; omega
        go_roundg (gk - 1)
        case measure => have := HK.out; omega
        case rel =>
          refine ⟨4, by have := HK.out; omega, rfl, ?_, hbw.setCell (by simp) _⟩
          have h1 := hown.set 3 (UInt8.ofNat (n / 256 ^ (7 - 3)))
          rw [HS.out, ← e] at h1
          exact h1
      · go_wp2_with fail
        have e : ((n : Int) / 16777216 % 256) = ((UInt8.ofNat (n / 256 ^ (7 - 4))).toNat : Int) := by rw [UInt8.toNat_ofNat', show 256 ^ (7 - 4) = 16777216 from by decide]; omega
        go_roundg (gk - 1)
        case measure => have := HK.out; omega
        case rel =>
          refine ⟨5, by have := HK.out; omega, rfl, ?_, hbw.setCell (by simp) _⟩
          have h1 := hown.set 4 (UInt8.ofNat (n / 256 ^ (7 - 4)))
          rw [HS.out, ← e] at h1
          exact h1
      · go_wp2_with fail
        have e : ((n : Int) / 65536 % 256) = ((UInt8.ofNat (n / 256 ^ (7 - 5))).toNat : Int) := by rw [UInt8.toNat_ofNat', show 256 ^ (7 - 5) = 65536 from by decide]; omega
        go_roundg (gk - 1)
        case measure => have := HK.out; omega
        case rel =>
          refine ⟨6, by have := HK.out; omega, rfl, ?_, hbw.setCell (by simp) _⟩
          have h1 := hown.set 5 (UInt8.ofNat (n / 256 ^ (7 - 5)))
          rw [HS.out, ← e] at h1
          exact h1
      · go_wp2_with fail
        have e : ((n : Int) / 256 % 256) = ((UInt8.ofNat (n / 256 ^ (7 - 6))).toNat : Int) := by rw [UInt8.toNat_ofNat', show 256 ^ (7 - 6) = 256 from by decide]; omega
        go_roundg (gk - 1)
        case measure => have := HK.out; omega
        case rel =>
          refine ⟨7, by have := HK.out; omega, rfl, ?_, hbw.setCell (by simp) _⟩
          have h1 := hown.set 6 (UInt8.ofNat (n / 256 ^ (7 - 6)))
          rw [HS.out, ← e] at h1
          exact h1
      · go_wp2_with fail
        have e : ((n : Int) % 256) = ((UInt8.ofNat (n / 256 ^ (7 - 7))).toNat : Int) := by rw [UInt8.toNat_ofNat', show 256 ^ (7 - 7) = 1 from by decide]; omega
        go_roundg (gk - 1)
        case measure => have := HK.out; omega
        case rel =>
          refine ⟨8, by have := HK.out; omega, rfl, ?_, hbw.setCell (by simp) _⟩
          have h1 := hown.set 7 (UInt8.ofNat (n / 256 ^ (7 - 7)))
          rw [HS.out, ← e] at h1
          exact h1
    · obtain rfl : k = 8 := by omega
      go_wp2_with fail
      go_ret
      have e : e8 n 8 = Sh.eightb n := by unfold e8; rw [List.take_of_length_le (by rw [Sh.eightb_len]; omega)]; simp
      rw [e] at hown
      exact ⟨_, _, rfl, hown, hbw⟩
end Go.Proofs.YtmnanbcinfdbaaaDoor
