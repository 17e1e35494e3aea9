/- The walk of the document's Same of rows of messages that are the same; conditions: none beyond its hypotheses. The walks of Held and Fault of a line; conditions: none beyond their hypotheses. -/
import Derived.Test.YthhhiiagppckhaaDoorMgLn4
import Derived.Test.YthhhiiagppckhaaDoorMgMs8
import Derived.Test.YthhhiiagppckhaaDoorMgDin
set_option linter.unusedSimpArgs false
set_option linter.unusedVariables false
section
namespace Go.Proofs.YthhhiiagppckhaaDoor
open Go.RowKit Go.Proofs.U
set_option linter.unusedVariables false

theorem quiet_load_mid {P : Program} {C : World → Prop} {o : Oper} {a : Act} {K : Act → Prop} (ty : TypeId) (x : Operand) (ho : o.op = .load ty x) (b off : Nat) (hx : a.eval x = .pointer (some ⟨b, off, none⟩)) (cs : List Value) (d : TypeDesc) (hb : ∀ w, C w → w.rangeAt b off cs)
    (hu : P.underlying ty = some d) (hd : d.isRow = true) (hi : (P.info? ty).map (·.size) = some cs.length) (h : K (a.put o.dst (.agg cs.toArray))) : o.quiet P a C K := by
  refine ⟨.agg cs.toArray, fun w hw => ?_, h⟩
  unfold Oper.quietAt execOp
  simp only [ho, hx, Instr.loadAt, Instr.sureAddr, Sem.run_bind, Sem.run_pure, Result.andThen_ok, run_loadVar_mid w b off ty cs d (hb w hw) hu hd hi]
  exact ⟨rfl, rfl⟩
theorem below_range {w w' : World} {b o : Nat} {cs : List Value} (h : w.rangeAt b o cs) (hb : Below w.heap.size w w') (hlt : b < w.heap.size) : w'.rangeAt b o cs := fun j v hj => (hb.cell (p := ⟨b, o + j, none⟩) hlt).trans (h j v hj)
theorem infoM16l (p : Mp) : (Tryd.prog.info? 27).map (·.size) = some p.cells.length := infoM16
set_option maxRecDepth 100000 in
set_option maxHeartbeats 4000000 in
theorem rsame33_any (A : Option Addr) (n c : Nat) (A' : Option Addr) (c' : Nat) (ps qs : List Mp) (B0 B1 : Nat) (w : World) (h1 : MS w w.heap.size A n ps) (h2 : MS w w.heap.size A' n qs) (he : ps.map Mp.m = qs.map Mp.m) (hp : ∀ p ∈ ps, MsgV w B0 p.m p.v) (hq : ∀ q ∈ qs, MsgV w B1 q.m q.v)
    (hr : ∀ p ∈ ps, p.m.rows.length ≤ 1000000000) (hn : n ≤ 1099511627776) :
    Calls Tryd.prog 40 #[.slice A n c, .slice A' n c'] w fun e w' => e = .returned (.bool true) ∧ Below w.heap.size w w' := by
  have hne : ((n : Int) != (n : Int)) = false := by simp
  have HP := Lib.hid (And.intro he (And.intro hp (And.intro hq hr)))
  clear he hp hq hr
  go_enter Tryd.func40, Tryd.ntmps40
  go_wp2_with fail
  go_loopg [5] n (fun r i wr => ∃ k : Nat, r + k = n ∧ i = .int .i64 (k : Int) ∧ Below w.heap.size w wr)
  case atStart => exact ⟨0, rfl, rfl, Below.refl _ _⟩
  case round =>
    obtain ⟨k, hgk, rfl, hbw⟩ := hrel
    by_cases hlt : k < n
    · obtain ⟨b1, o1, p, rfl, hb1, hp1, r1⟩ := h1.at_ hlt
      obtain ⟨b2, o2, q, rfl, hb2, hq1, r2⟩ := h2.at_ hlt
      have hm : q.m = p.m := by
        have e := congrArg (fun l => l[k]?) HP.out.1
        simp only [List.getElem?_map, hp1, hq1, Option.map_some, Option.some.injEq] at e
        exact e.symm
      have hpv := HP.out.2.1 p (List.mem_of_getElem? hp1)
      have hqv := HP.out.2.2.1 q (List.mem_of_getElem? hq1)
      have hrl := HP.out.2.2.2 p (List.mem_of_getElem? hp1)
      rw [hm] at hqv
      have HX := Lib.hid (And.intro (And.intro (below_range r1 hbw hb1) (below_range r2 hbw hb2)) (And.intro (hpv.below hbw) (And.intro (hqv.below hbw) hrl)))
      have hl1 := Nat.lt_of_lt_of_le hb1 hbw.size
      have hl2 := Nat.lt_of_lt_of_le hb2 hbw.size
      clear hpv hqv hrl hm hp1 hq1 r1 r2
      go_wp2_with fail
      refine wp_region_class (C := fun w' => Below wr.heap.size wr w') (by kernel_rfl) (by kernel_rfl) (Drawn.below ⟨1, rfl⟩ _) ?_
      repeat
        (refine wpQuiet_step (fun K hK => ?_)
         rw [if_pos (by rfl)]
         first
           | (refine quiet_load_mid 27 (.tmp 19) rfl b1 (o1 + k * 16) rfl p.cells _ (fun w' hw' => below_range HX.out.1.1 hw' hl1) Tryd.underlying27 rfl (infoM16l p) (hK _ ?_))
           | (refine quiet_load_mid 27 (.tmp 23) rfl b2 (o2 + k * 16) rfl q.cells _ (fun w' hw' => below_range HX.out.1.2 hw' hl2) Tryd.underlying27 rfl (infoM16l q) (hK _ ?_))
           | (apply Exists.intro
              refine ⟨fun w' hw' => ?_, hK _ ?_⟩
              · have hS := rsame15_eq B0 B1 p.m p.v q.v w' (HX.out.2.1.below hw') (HX.out.2.2.1.below hw') HX.out.2.2.2
                go_simp
                first
                  | done
                  | rfl
                  | ((with_reducible refine hS.mono ?_)
                     rintro e w1 ⟨rfl, hb1⟩
                     exact ⟨rfl, hw'.trans (hb1.mono hw'.size)⟩)
                  | (refine hS.mono ?_
                     rintro e w1 ⟨rfl, hb1⟩
                     exact ⟨rfl, hw'.trans (hb1.mono hw'.size)⟩))
         clear hK K
         go_simp)
      refine wpQuiet_nil ?_
      intro w4 hw4
      go_wp2_with fail
      go_roundg (gk - 1)
      case measure => omega
      case rel => exact ⟨k + 1, by omega, by go_num, hbw.trans (hw4.mono hbw.size)⟩
    · obtain rfl : k = n := by omega
      go_wp2_with fail
      go_ret
      exact ⟨rfl, hbw⟩
end Go.Proofs.YthhhiiagppckhaaDoor
end

section
namespace Go.Proofs.YthhhiiagppckhaaDoor
open Go.RowKit Go.Proofs.U Go.Proofs.Bp
set_option linter.unusedVariables false

theorem lheldNil_any (w : World) : Calls Tryd.prog 41 #[.pointer none] w fun en w' => en = .returned (.int .i64 0) ∧ w' = w := by
  go_enter Tryd.func41, Tryd.ntmps41
  go_wp2_with fail
  go_ret
  exact ⟨rfl, rfl⟩
theorem lheld_any (g : Nat) (P : List UInt8) (w : World) (h : Ink w g P 0) : Calls Tryd.prog 41 #[.pointer (some ⟨g, 0, none⟩)] w fun en w' => en = .returned (.int .i64 (P.length : Int)) ∧ w' = w := by
  have hl := h.lt
  go_enter Tryd.func41, Tryd.ntmps41
  go_wp2_with fail
  refine (held_any g P 0 _ h).mono ?_
  rintro e w' ⟨rfl, rfl⟩
  go_wp2_with fail
  go_ret
  exact ⟨rfl, rfl⟩
theorem faultNil_any (w : World) : Calls Tryd.prog 47 #[.pointer none] w (ErRet w (.one [102, 101, 101, 100] [] (.code 1))) := by
  have h := fun w => told_code (N := fun _ => True) 1 (by decide) [102, 101, 101, 100] w (fun _ _ => trivial)
  go_enter Tryd.func47, Tryd.ntmps47
  go_wp2_with fail
  refine (h _).mono ?_
  rintro e w1 ⟨v, rfl, hv, hb⟩
  go_wp2_with fail
  go_ret
  exact ⟨v, rfl, hv, hb⟩
end Go.Proofs.YthhhiiagppckhaaDoor
end
