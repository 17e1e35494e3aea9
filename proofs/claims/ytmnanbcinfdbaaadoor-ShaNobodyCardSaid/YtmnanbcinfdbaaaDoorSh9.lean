/- The walks of Hex and of the example of layer 5; conditions: none beyond their hypotheses. -/
import Derived.Test.YtmnanbcinfdbaaaDoorSh8
import Derived.Lib.SlBytesConst
namespace Go.Proofs.YtmnanbcinfdbaaaDoor
open Go.RowKit Go.Proofs.U
set_option linter.unusedVariables false

def hexd (d : Nat) : UInt8 := UInt8.ofNat (if d < 10 then 48 + d else 87 + d)
def hex2 (c : UInt8) : List UInt8 := [hexd (c.toNat / 16), hexd (c.toNat % 16)]
def hexl (l : List UInt8) : List UInt8 := l.flatMap hex2
theorem abc : hexl (Sh.dig [97, 98, 99]) = [98, 97, 55, 56, 49, 54, 98, 102, 56, 102, 48, 49, 99, 102, 101, 97, 52, 49, 52, 49, 52, 48, 100, 101, 53, 100, 97, 101, 50, 50, 50, 51, 98, 48, 48, 51, 54, 49, 97, 51, 57, 54, 49, 55, 55, 97, 57, 99, 98, 52, 49, 48, 102, 102, 54, 49, 102, 50, 48, 48, 49, 53, 97, 100] := by decide +kernel

def digits16 : ByteArray := ⟨#[48, 49, 50, 51, 52, 53, 54, 55, 56, 57, 97, 98, 99, 100, 101, 102]⟩
theorem hexd_at (d : Nat) (h : d < 16) (w : World) : (Instr.index 9 (.string digits16) (.int .u8 (d : Int))).run Tryd.prog w = .ok (.int .u8 ((hexd d).toNat : Int)) w := by
  have hs : d = 0 ∨ d = 1 ∨ d = 2 ∨ d = 3 ∨ d = 4 ∨ d = 5 ∨ d = 6 ∨ d = 7 ∨ d = 8 ∨ d = 9 ∨ d = 10 ∨ d = 11 ∨ d = 12 ∨ d = 13 ∨ d = 14 ∨ d = 15 := by omega
  rcases hs with rfl | rfl | rfl | rfl | rfl | rfl | rfl | rfl | rfl | rfl | rfl | rfl | rfl | rfl | rfl | rfl <;> (rw [run_index_string _ _ _ _ _ Tryd.underlying9]; rfl)
theorem and15b (c : UInt8) : bits .and .u8 (c.toNat : Int) 15 = ((c.toNat % 16 : Nat) : Int) := by
  have h : ∀ d : Fin 256, bits .and .u8 ((d.val : Nat) : Int) 15 = ((d.val % 16 : Nat) : Int) := by decide +kernel
  exact h ⟨c.toNat, c.toNat_lt⟩

def HexRet (w : World) (D : List UInt8) (e : Ending) (w' : World) : Prop := e = .returned (.string (strOf (hexl D))) ∧ Below w.heap.size w w'
theorem hexl_len (D : List UInt8) : (hexl D).length = 2 * D.length := by
  unfold hexl
  induction D with
  | nil => rfl
  | cons c D ih => rw [List.flatMap_cons, List.length_append, ih]; simp [hex2]; omega
theorem hexl_snoc (D : List UInt8) (k : Nat) (c : UInt8) (h : D[k]? = some c) : hexl (D.take (k + 1)) = hexl (D.take k) ++ hex2 c := by
  rw [List.take_add_one, h]; simp [hexl]
theorem run_index_arr8 {P : Program} (w : World) (t e : TypeId) (n : Nat) (cs : Array Value) (k : IntKind) (i : Nat) (v : Value) (h : P.underlying t = some (.array n e)) (hu : P.underlying e = some (.int .u8)) (he : (P.info? e).map (·.size) = some 1) (hi : i < n) (hv : cs[i]? = some v) :
    (Instr.index t (.agg cs) (.int k (i : Int))).run P w = .ok v w := by
  cases hq : P.info? e with
  | none => simp [hq] at he
  | some inf =>
    have hs : inf.size = 1 := by simpa [hq] using he
    simp [Instr.index, run_underlying h, run_underlying hu, asIntOf, hi, sizeOf, typeInfo, hq, hs, part, isAgg, hv]

/-- make of bytes, none of it there -/
theorem wpList_make0 {P : Program} {w : World} {t e : TypeId} (hB : Bt P t e) {ops : Array Oper} {rest : List Oper} {o : Oper} {a : Act} {Q : Exit → Act → World → Prop} (hg : o.guard = none) (l c : Operand) (hop : o.op = Op.makeSlice t l c)
    (n : Nat) (C : Int) (hl : a.eval l = .int .i64 0) (hc : a.eval c = .int .i64 C) (hC : C = (n : Int)) (b2 : n ≤ 140737488355328)
    (hK : ∀ w', Own w' w.heap.size e (some ⟨w.heap.size, 0, none⟩) 0 n [] → Below w.heap.size w w' → wpList P ops Q rest (a.put o.dst (.slice (some ⟨w.heap.size, 0, none⟩) 0 n)) w') :
    wpList P ops Q (o :: rest) a w := by
  obtain ⟨i, hi, hz, hs, hby⟩ := info_parts hB.hi
  refine wpList_make_own w hg l c t hop w.heap.size e i (.int .u8 0) 1 hB.ht hi hz hs .i64 .i64 C n hl hc hC (by rw [hby]; omega) (by unfold maxLen; omega) (Nat.le_refl _) fun w' h1 h2 => ?_
  exact hK w' h1 ⟨h2.os, h2.tape, h2.output, h2.size, fun k hk => h2.block k hk (by simp)⟩

set_option maxRecDepth 100000 in
set_option maxHeartbeats 4000000 in
theorem hex_any (D : List UInt8) (hD : D.length = 32) (w : World) : Calls Tryd.prog 19 #[.agg (D.map bv).toArray] w (HexRet w D) := by
  have hsz : (Tryd.prog.info? 25).map (·.size) = some (D.map bv).toArray.size := by
    rw [show (D.map bv).toArray.size = 32 by simp [hD]]; kernel_rfl
  have HZ := Lib.hid hsz
  have HD := Lib.hid hD
  obtain ⟨DD, hDD⟩ : ∃ DD, DD = (D.map bv).toArray := ⟨_, rfl⟩
  rw [← hDD] at HZ ⊢
  have HDD := Lib.hid hDD
  clear hsz hD hDD
  go_enter Tryd.func19, Tryd.ntmps19
  have hs0 : (w.alloc (.cells DD 25)).heap.size = w.heap.size + 1 := by simp
  have hbk0 : Blk (w.alloc (.cells DD 25)) w.heap.size 25 DD := Blk.new _ _ _
  have hb0 : Below w.heap.size w (w.alloc (.cells DD 25)) := (Below.refl _ _).alloc (Nat.le_refl _) _
  have HS0 := Lib.hid hs0
  clear hs0
  go_wp2_with (first
    | (refine wpList_make0 bt rfl _ _ rfl 64 _ rfl rfl rfl (by omega) ?_; intro w1 hown1 hb1; have hz1 := hb1.size; rw [HS0.out] at hown1 hz1 ⊢; have hbk1 := hbk0.stay hb1)
    | (refine wpList_load_blk rfl 25 (.tmp 1) rfl w.heap.size rfl _ _ _ hbk1 Tryd.underlying25 rfl HZ.out ?_))
  have hbw1 := hb0.trans (hb1.mono hb0.size)
  clear hb1 hbk0 hb0
  obtain ⟨cur1, hbc1, hcs1⟩ : ∃ cur, Blk w1 (w.heap.size + 1) 5 cur ∧ cur.size = 64 := by
    rcases hown1.2 with ⟨hv, _⟩ | ⟨g, cap, cur, hv, _, hh, _, _, hsz, _⟩
    · injection hv with h1; cases h1
    · injection hv with h1 _ h3
      injection h1 with h1
      injection h1 with h1
      subst h1; subst h3
      exact ⟨cur, hh, by omega⟩
  go_loopg [3, 8] 32 (fun r t i wr => ∃ k cur, r + k = 32 ∧ i = .int .i64 (k : Nat) ∧ t = .slice (some ⟨w.heap.size + 1, 0, none⟩) (2 * k) 64 ∧ Blk wr (w.heap.size + 1) 5 cur ∧ cur.size = 64 ∧ cur.toList.take (2 * k) = (hexl (D.take k)).map bv ∧ Below w.heap.size w wr)
  case atStart => exact ⟨0, cur1, rfl, rfl, rfl, hbc1, hcs1, rfl, hbw1⟩
  case round =>
    clear hown1 hbw1 hbc1 hcs1
    obtain ⟨k, cur, hk, rfl, rfl, hbc, hcs, htk, hbw⟩ := hrel
    have HK := Lib.hid hk
    have HT := Lib.hid (And.intro hcs htk)
    obtain ⟨wo, rfl⟩ : ∃ wo : World, wo = wr := ⟨_, rfl⟩
    have hz := hbc.lt
    by_cases h32 : k < 32
    · obtain ⟨y, hy⟩ : ∃ y, D[k]? = some y := ⟨_, List.getElem?_eq_getElem (by rw [HD.out]; exact h32)⟩
      have hidx : ∀ w', (Instr.index 25 (.agg DD) (.int .i64 (k : Int))).run Tryd.prog w' = .ok (.int .u8 (y.toNat : Int)) w' := fun w' =>
        run_index_arr8 w' _ _ _ _ _ k _ Tryd.underlying25 Tryd.underlying5 (by kernel_rfl) h32 (by rw [HDD.out, List.getElem?_toArray, List.getElem?_map, hy]; rfl)
      have hsn := hexl_snoc D k y hy
      have HS := Lib.hid hsn
      have hy2 := y.toNat_lt
      have x1 : ∀ w', (Instr.index 9 (.string digits16) (.int .u8 ((y.toNat : Int) / 16))).run Tryd.prog w' = .ok (.int .u8 ((hexd (y.toNat / 16)).toNat : Int)) w' := fun w' => by
        rw [show (y.toNat : Int) / 16 = ((y.toNat / 16 : Nat) : Int) by omega]; exact hexd_at _ (by omega) w'
      have x2 : ∀ w', (Instr.index 9 (.string digits16) (.int .u8 ((y.toNat : Int) % 16))).run Tryd.prog w' = .ok (.int .u8 ((hexd (y.toNat % 16)).toNat : Int)) w' := fun w' => by
        rw [show (y.toNat : Int) % 16 = ((y.toNat % 16 : Nat) : Int) by omega]; exact hexd_at _ (by omega) w'
      unfold digits16 at x1 x2
      have a1 : bits .and .u8 (y.toNat : Int) 15 = (y.toNat : Int) % 16 := by rw [and15b]; omega
      clear hy hsn hk
      go_wp2_with fail
      obtain ⟨v0, hv0⟩ : ∃ v0, cur[2 * k]? = some v0 := ⟨_, Array.getElem?_eq_getElem (by omega)⟩
      obtain ⟨v1, hv1⟩ : ∃ v1, cur[2 * k + 1]? = some v1 := ⟨_, Array.getElem?_eq_getElem (by omega)⟩
      rw [← hbc.cell] at hv0 hv1
      have f0 := hbc.frozen (2 * k)
      have f1 := hbc.frozen (2 * k + 1)
      have r1 : 2 * k + 2 ≤ 64 := by omega
      clear hcs htk
      have hst : ∀ a b : Value, (((cur.setIfInBounds (2 * k) a).setIfInBounds (2 * k + 1) b).toList.take (2 * (k + 1))) = cur.toList.take (2 * k) ++ [a, b] := by
        intro a b
        have h2 := HT.out.1
        rw [Array.toList_setIfInBounds, Array.toList_setIfInBounds]
        apply List.ext_getElem?
        intro i
        have hlen : cur.toList.length = 64 := by simpa using h2
        rw [List.getElem?_take]
        by_cases hi : i < 2 * (k + 1)
        · rw [if_pos hi, List.getElem?_set, List.getElem?_set]
          by_cases h1 : i < 2 * k
          · rw [if_neg (by omega), if_neg (by omega), List.getElem?_append_left (by rw [List.length_take]; omega), List.getElem?_take, if_pos h1]
          · rw [List.getElem?_append_right (by rw [List.length_take]; omega), List.length_take, show min (2 * k) cur.toList.length = 2 * k by omega]
            by_cases h3 : i = 2 * k
            · subst h3
              rw [if_neg (by omega), if_pos rfl, if_pos (by omega), Nat.sub_self]; rfl
            · obtain rfl : i = 2 * k + 1 := by omega
              rw [if_pos rfl, if_pos (by simp; omega), show 2 * k + 1 - 2 * k = 1 by omega]; rfl
        · rw [if_neg hi, List.getElem?_eq_none (by simp; omega)]
      have HST := Lib.hid hst
      clear hst
      go_region
      go_wp2_with fail
      go_roundg (gk - 1)
      case measure => have := HK.out; omega
      case rel =>
        refine ⟨k + 1, _, by have := HK.out; omega, by go_num, rfl, (((hbc.set_ (2 * k) _).set_ (2 * k + 1) _).alloc _).drew, by simp [HT.out.1], ?_, (((hbw.setCell (by simp) _).setCell (by simp) _).alloc (by simpa [World.setCell] using hbw.size) _).drew⟩
        rw [HST.out, HT.out.2, HS.out, List.map_append]; rfl
    · obtain rfl : k = 32 := by omega
      have hown : BS wo wo.heap.size (some ⟨w.heap.size + 1, 0, none⟩) (2 * 32) (hexl (D.take 32)) := by
        have hl : (hexl (D.take 32)).length = 64 := by rw [hexl_len, List.length_take, HD.out]; rfl
        refine ⟨hl, fun _ => ⟨_, 0, rfl, hz, fun j hj => ?_⟩⟩
        rw [hbc.cell, Nat.zero_add]
        have := congrArg (fun l : List Value => l[j]?) htk
        rw [List.getElem?_take, if_pos (by omega), List.getElem?_map] at this
        simp only [Array.getElem?_toList] at this
        rw [this, List.getElem?_eq_getElem hj]; rfl
      have hcv := run_str (w := wo) hown 22 5 9 Tryd.underlying22 Tryd.underlying5 Tryd.underlying9 64
      rw [List.take_of_length_le (by rw [HD.out]; omega)] at hcv
      go_wp2_with fail
      go_ret
      exact ⟨rfl, hbw⟩

/-- a statement's part that answers true, and leaves what was there -/
def Yes (w : World) (e : Ending) (w' : World) : Prop := e = .returned (.bool true) ∧ Below w.heap.size w w'

set_option maxRecDepth 100000 in
set_option maxHeartbeats 4000000 in
theorem lives05 (w : World) (hT : Tabs w) : Calls Tryd.prog 16 #[] w (Yes w) := by
  have habc := abc
  have hdl := Sh.dig_len [97, 98, 99]
  obtain ⟨D, hD⟩ : ∃ D, D = Sh.dig [97, 98, 99] := ⟨_, rfl⟩
  rw [← hD] at habc hdl
  have HD := Lib.hid hD
  have HA := Lib.hid (And.intro habc hdl)
  clear hD habc hdl
  have kc := fun (w : World) (C : Array Value) (n c : Nat) => Lib.run_convert_bytes_const (P := Tryd.prog) w 22 5 C n c Tryd.underlying22 Tryd.underlying5
  go_enter Tryd.func16, Tryd.ntmps16
  go_wp2_with fail
  have hb0 : Below w.heap.size w (w.alloc (.cells (([97, 98, 99] : List UInt8).map bv).toArray 5 (3, 4))) := (Below.refl _ _).alloc (Nat.le_refl _) _
  refine (sumP_any (some ⟨w.heap.size, 0, none⟩) 3 3 [97, 98, 99] (w.alloc (.cells (([97, 98, 99] : List UInt8).map bv).toArray 5 (3, 4))) (BS.fresh w 5 [97, 98, 99] (3, 4)) (Nat.le_refl _) (by omega) (hT.stay hb0)).mono ?_
  rintro e w1 ⟨rfl, hb1⟩
  rw [← HD.out]
  have hbw1 := hb0.trans (hb1.mono hb0.size)
  go_wp2_with fail
  refine (hex_any D HA.out.2 w1).mono ?_
  rintro e w2 ⟨rfl, hb2⟩
  rw [HA.out.1]
  go_wp2_with fail
  go_ret
  refine ⟨?_, hbw1.trans (hb2.mono hbw1.size)⟩
  first | rfl | simp [strOf]
end Go.Proofs.YtmnanbcinfdbaaaDoor
