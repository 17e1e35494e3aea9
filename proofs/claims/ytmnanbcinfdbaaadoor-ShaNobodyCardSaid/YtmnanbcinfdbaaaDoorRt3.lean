/- The walk of the reference of sha: which of two numbers in digits is above; conditions: none beyond its hypotheses. -/
import Derived.Test.YtmnanbcinfdbaaaDoorRt1
namespace Go.Proofs.YtmnanbcinfdbaaaDoor
open Go.RowKit Go.Proofs.U
set_option linter.unusedVariables false

def abB (a b : List Nat) : Bool := decide (Rp.val b < Rp.val a)
theorem abB_gt {a b : List Nat} {i : Nat} (hb : Rp.Dig b) (he : ∀ j, i < j → Rp.dg a j = Rp.dg b j) (hi : Rp.dg b i < Rp.dg a i) : abB a b = true := decide_eq_true (Rp.val_lt_of hb (fun j hj => (he j hj).symm) hi)
theorem abB_lt {a b : List Nat} {i : Nat} (ha : Rp.Dig a) (he : ∀ j, i < j → Rp.dg a j = Rp.dg b j) (hi : Rp.dg a i < Rp.dg b i) : abB a b = false := by
  have := Rp.val_lt_of ha he hi
  exact decide_eq_false (by omega)
theorem abB_eq {a b : List Nat} (he : ∀ j, Rp.dg a j = Rp.dg b j) : abB a b = false := by
  have := Rp.val_eq_of he
  exact decide_eq_false (by omega)

def AboveRet (w : World) (b : Bool) (e : Ending) (w' : World) : Prop := e = .returned (.bool b) ∧ w = w'
set_option maxRecDepth 100000 in
set_option maxHeartbeats 4000000 in
theorem above_any (A B : Option Addr) (la lb ca cb : Nat) (a b : List Nat) (w : World) (ha : VS w w.heap.size A la (a.map iv)) (hb : VS w w.heap.size B lb (b.map iv)) (da : Rp.Dig a) (db : Rp.Dig b) (hla : 0 < la) (hlb : 0 < lb) (hla2 : la ≤ 1000) (hlb2 : lb ≤ 1000) :
    Calls Tryd.prog 126 #[.slice A la ca, .slice B lb cb] w (AboveRet w (abB a b)) := by
  have hal : a.length = la := by have := ha.1; simpa using this
  have hbl : b.length = lb := by have := hb.1; simpa using this
  have HL := Lib.hid (And.intro hal hbl)
  obtain ⟨bA, oA, rfl, hbA, -⟩ := ha.2 hla
  obtain ⟨bB, oB, rfl, hbB, -⟩ := hb.2 hlb
  clear hal hbl
  go_enter Tryd.func126, Tryd.ntmps126
  go_wp2_with fail
  go_loopg [5] (la + lb + 1) (fun r i wr => wr = w ∧ i = .int .i64 ((r : Int) - 1) ∧ r ≤ la + lb + 1 ∧ ∀ j, r ≤ j → Rp.dg a j = Rp.dg b j)
  case atStart => exact ⟨rfl, by congr 1; push_cast; omega, Nat.le_refl _, fun j hj => by rw [Rp.dg_out (by rw [HL.out.1]; omega), Rp.dg_out (by rw [HL.out.2]; omega)]⟩
  case round =>
    obtain ⟨rfl, rfl, hr, he⟩ := hrel
    have HE := Lib.hid he
    clear he
    rcases Nat.eq_zero_or_pos gk with rfl | hpos
    · have e0 : ((0 : Nat) : Int) - 1 = -1 := rfl
      rw [e0]
      go_wp2_with fail
      go_ret
      exact ⟨by rw [abB_eq fun j => HE.out j (Nat.zero_le _)]; rfl, rfl⟩
    · obtain ⟨i, rfl⟩ : ∃ i, gk = i + 1 := ⟨gk - 1, by omega⟩
      have e0 : ((i + 1 : Nat) : Int) - 1 = (i : Int) := by omega
      rw [e0]
      obtain ⟨x, hx⟩ : ∃ x, x = Rp.dg a i := ⟨_, rfl⟩
      obtain ⟨y, hy⟩ : ∃ y, y = Rp.dg b i := ⟨_, rfl⟩
      have HX := Lib.hid (And.intro hx hy)
      have ca : i < la → wr.cell? ⟨bA, oA + i, none⟩ = some (.int .i64 (x : Int)) := fun h => nth_n ha (by rw [hx]; exact Rp.at_dg (by rw [HL.out.1]; exact h))
      have cb : i < lb → wr.cell? ⟨bB, oB + i, none⟩ = some (.int .i64 (y : Int)) := fun h => nth_n hb (by rw [hy]; exact Rp.at_dg (by rw [HL.out.2]; exact h))
      have za : ¬ i < la → x = 0 := fun h => by rw [hx]; exact Rp.dg_out (by rw [HL.out.1]; omega)
      have zb : ¬ i < lb → y = 0 := fun h => by rw [hy]; exact Rp.dg_out (by rw [HL.out.2]; omega)
      clear hx hy ha hb
      have main : x = y → ∀ j, i ≤ j → Rp.dg a j = Rp.dg b j := fun e j hj => by
        rcases Nat.eq_or_lt_of_le hj with rfl | h
        · rw [← HX.out.1, ← HX.out.2, e]
        · exact HE.out j h
      have HM := Lib.hid main
      clear main
      by_cases h1 : i < la
      all_goals by_cases h2 : i < lb
      · have c1 := ca h1
        have c2 := cb h2
        clear ca cb za zb
        rcases Nat.lt_trichotomy x y with h | h | h
        · go_wp2_with fail
          go_ret
          exact ⟨by rw [abB_lt da HE.out (by rw [← HX.out.1, ← HX.out.2]; exact h)]; first | (simp; done) | (simp; omega), rfl⟩
        · subst h
          go_wp2_with fail
          go_roundg i
          case measure => omega
          case rel => exact ⟨rfl, by go_num, by omega, HM.out trivial⟩
        · go_wp2_with fail
          go_ret
          exact ⟨by rw [abB_gt db HE.out (by rw [← HX.out.1, ← HX.out.2]; exact h)]; first | (simp; done) | (simp; omega), rfl⟩
      · have c1 := ca h1
        obtain rfl := zb h2
        clear ca cb za zb
        rcases Nat.eq_zero_or_pos x with rfl | h
        · go_wp2_with fail
          go_roundg i
          case measure => omega
          case rel => exact ⟨rfl, by go_num, by omega, HM.out trivial⟩
        · go_wp2_with fail
          go_ret
          exact ⟨by rw [abB_gt db HE.out (by rw [← HX.out.1, ← HX.out.2]; exact h)]; first | (simp; done) | (simp; omega), rfl⟩
      · have c2 := cb h2
        obtain rfl := za h1
        clear ca cb za zb
        rcases Nat.eq_zero_or_pos y with rfl | h
        · go_wp2_with fail
          go_roundg i
          case measure => omega
          case rel => exact ⟨rfl, by go_num, by omega, HM.out trivial⟩
        · go_wp2_with fail
          go_ret
          exact ⟨by rw [abB_lt da HE.out (by rw [← HX.out.1, ← HX.out.2]; exact h)]; first | (simp; done) | (simp; omega), rfl⟩
      · obtain rfl := za h1
        obtain rfl := zb h2
        clear ca cb za zb
        go_wp2_with fail
        go_roundg i
        case measure => omega
        case rel => exact ⟨rfl, by go_num, by omega, HM.out trivial⟩
end Go.Proofs.YtmnanbcinfdbaaaDoor
