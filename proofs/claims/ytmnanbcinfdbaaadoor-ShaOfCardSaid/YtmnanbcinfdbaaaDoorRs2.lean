/- The walks of the reference's Parts and of ShaOf; conditions: none beyond their hypotheses. -/
import Derived.Test.YtmnanbcinfdbaaaDoorRs1
import Derived.Deep.RegionLaw
namespace Go.Proofs.YtmnanbcinfdbaaaDoor
open Go.RowKit Go.Proofs.U
set_option linter.unusedVariables false

theorem step_appg {P : Program} {w : World} {t e : TypeId} (hB : Bt P t e) {ops : Array Oper} {o : Oper} {a : Act} {K : Act → World → Prop} {Q : Exit → Act → World → Prop} {E : Prop} (hg : o.guard = none) (s x : Operand)
    (ho : o.op = .call { callee := .builtin .append, args := #[s, x], argTypes := #[t, t] })
    (base : Nat) (A : Option Addr) (n c : Nat) (bs : List UInt8) (hs : a.eval s = .slice A n c) (hown : Own w base e A n c bs)
    (B : Nat) (A' : Option Addr) (m c' : Nat) (bs' : List UInt8) (hx : a.eval x = .slice A' m c') (hr : BS w B A' m bs') (hlen : n + m ≤ 140737488355328) (hbase : base ≤ w.heap.size)
    (h : ∀ A2 c2 w2, Own w2 base e A2 (n + m) c2 (bs ++ bs') → w.grownBy w2 (Value.slice A n c).ownBlock → ((Value.slice A2 (n + m) c2).ownBlock = (Value.slice A n c).ownBlock ∨ (Value.slice A2 (n + m) c2).ownBlock = some w.heap.size) →
      K (a.put o.dst (.slice A2 (n + m) c2)) w2) : if Region.wanted o (yielded ops a.tmps) = true then Oper.wp P o a w K Q else E := by
  have hw : Region.wanted o (yielded ops a.tmps) = true := by simp [Region.wanted, hg]
  rw [if_pos hw]
  obtain ⟨A2, c2, w2, hrun, h2, h3, h4⟩ := run_app (w := w) hB o.type base A n c bs hown B A' m c' bs' hr hlen hbase
  unfold Oper.wp execOp
  simp only [ho, resolve, invoke, builtin, Sem.run_bind, Sem.run_pure, Result.andThen_ok, List.map_toArray, List.map_cons, List.map_nil, hs, hx, hrun]
  exact h A2 c2 w2 h2 h3 h4

set_option maxRecDepth 100000 in
set_option maxHeartbeats 8000000 in
theorem rparts_any (A : Option Addr) (n c : Nat) (l : List (List UInt8)) (w : World) (h : SS w 0 w.heap.size A n l) (hn : n ≤ 20) (htot : total5 l ≤ 1000) :
    Calls Tryd.prog 28 #[.slice A n c] w (OwnRet 5 w (partsOf l).length (partsOf l)) := by
  have hl := h.1
  have HL := Lib.hid hl
  clear hl
  go_enter Tryd.func28, Tryd.ntmps28
  go_wp2_with fail
  go_loopg [3, 4] n (fun r t i wr => ∃ (k : Nat) (Ao : Option Addr) (co L : Nat), r + k = n ∧ L = (partsOf (l.take k)).length ∧ i = .int .i64 k ∧ t = .slice Ao L co ∧ Own wr w.heap.size 5 Ao L co (partsOf (l.take k)) ∧ Below w.heap.size w wr)
  case atStart => exact ⟨0, none, 0, 0, rfl, rfl, rfl, rfl, Own.nil _ _ _, Below.refl _ _⟩
  case round =>
    obtain ⟨k, Ao, co, L, hk, hL, rfl, rfl, hown, hbw⟩ := hrel
    have HK := Lib.hid hk
    have HLL := Lib.hid hL
    obtain ⟨wo, rfl⟩ : ∃ wo : World, wo = wr := ⟨_, rfl⟩
    have hPl : L ≤ 1160 := by
      rw [hL, partsOf_len, List.length_take]; have := total5_take l k; omega
    by_cases hlt : k < n
    · clear hk hL
      obtain ⟨b, off, xs, A2, c2, rfl, _, hx, hcell, hc2, hbs0, _⟩ := (h.below hbw).at_ hlt
      have hsn := partsOf_snoc l k xs hx
      have hxl : xs.length ≤ 1000 := by
        have h1 := total5_take l (k + 1)
        rw [total5_snoc l k xs hx] at h1; omega
      have HS := Lib.hid hsn
      clear hx hsn
      have hq1 : L + 8 ≤ 140737488355328 := by omega
      have hq2 : L + 8 + xs.length ≤ 140737488355328 := by omega
      go_wp2_with fail
      go_region_law (first
        | (refine step_appg bt rfl _ _ rfl w.heap.size Ao L co _ rfl hownb _ A3 8 c3 _ rfl hown3.bs hq1 hbw3.size ?_
           rintro A4 c4 w4 hown4 hg4 -
           have hbw4 : Below w.heap.size w w4 := below_of_grown hbw3 hbw3.size hownb (Nat.le_refl _) hg4
           have hcell4 : w4.cell? ⟨b, off + k, none⟩ = some (.slice A2 xs.length c2) := by
             rw [hbw4.cell (p := ⟨b, off + k, none⟩) (by assumption), ← hbw3.cell (p := ⟨b, off + k, none⟩) (by assumption)]; exact hcell3
           have hbs4 : BS w4 w.heap.size A2 xs.length xs := (hbs0.keep fun p hp => (hbw.cell hp).symm).below hbw4
           clear hg4 hown3 hownb)
        | (refine step_appg bt rfl _ _ rfl w.heap.size A4 (L + 8) c4 _ rfl hown4 w.heap.size A2 xs.length c2 _ rfl hbs4 hq2 hbw4.size ?_
           rintro A5 c5 w5 hown5 hg5 -
           have hbw5 : Below w.heap.size w w5 := below_of_grown hbw4 hbw4.size hown4 (Nat.le_refl _) hg5
           clear hg5 hown4)
        | (go_simp
           go_at_call 65; refine (reight_any xs.length (by omega) _).mono ?_; rintro e w2 ⟨A3, c3, rfl, hown3, hb3⟩
           have hbw3 : Below w.heap.size w w2 := (hbw.drew).trans (hb3.mono hbw.size)
           have hcell3 : w2.cell? ⟨b, off + k, none⟩ = some (.slice A2 xs.length c2) := (hb3.cell (World.block_lt_of_cell? wo _ hcell)).trans hcell
           have hownb := hown.drew.below hb3
           clear hb3
           go_simp))
      all_goals
        clear hcell hcell3 hcell4 hbs4 hbw3 hbw4 h hbs0 hown hbw
        go_wp2_with fail
        go_roundg (gk - 1)
        case measure => have := HK.out; omega
        case rel =>
          have hk := HK.out
          have hLL := HLL.out
          refine ⟨k + 1, A5, c5, L + 8 + xs.length, by omega, ?_, by go_num, rfl, ?_, hbw5⟩
          · rw [HS.out, List.length_append, List.length_append, Sh.eightb_len, ← hLL]
          · rw [HS.out]; exact hown5
    · obtain rfl : k = n := by omega
      have hfin : l.take k = l := List.take_of_length_le (by rw [HL.out]; omega)
      rw [hfin] at hown hL
      subst hL
      go_wp2_with fail
      go_ret
      exact ⟨_, _, rfl, hown, hbw⟩
end Go.Proofs.YtmnanbcinfdbaaaDoor
