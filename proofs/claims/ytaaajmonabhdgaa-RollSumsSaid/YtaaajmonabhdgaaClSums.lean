/-
  PROVED HERE: the statement RollSums (tenderlaw06) of the seat Ytaaajmonabhdgaa: for every input the law answers true, and its arguments read as before. Conditions: none beyond the given statement's own.
-/
import Derived.Test.YtaaajmonabhdgaaLaw06
import Derived.Test.YtaaajmonabhdgaaOp
namespace Go.Proofs.Ytaaajmonabhdgaa.rollSumsLaw
open Go.ChangeShapes Go.WideShapes Go.ChangeAt Go.RowKit Go.Proofs.U
set_option linter.unusedVariables false

theorem own : ownKnob Try.prog.godebug = none := by kernel_rfl
theorem laidOut : laidOutB Try.prog = true := by kernel_rfl

theorem contract (H : Type) (enc : TypeId × Value → H) (W : World) (base : Nat) (args : Array Value) (ds gs : List (DataW H)) (before : List MemPlace)
    (hval : ∀ (j : Nat) t v, Try.f4.params[j]? = some t → args[j]? = some v → Value.okWide Try.prog W .any base t v)
    (hW : DataW.Whole enc Try.prog Try.f4.params.toList Rows.rollSumsSpec.vars false W args.toList ds gs before) :
    Calls Try.prog 4 args W fun e W' => ∃ v, e = .returned v ∧ Rows.rollSumsSpec.post enc Try.prog Try.f4 false true false false W args v W' := by
  have hW' := hW
  obtain ⟨p, q, hA0, hV, rfl, hfz, hnd⟩ := hW
  have hA : DataW.TrodAll enc Try.prog W 0 (fun _ => true) true Try.f4.params.toList args.toList ds p := hA0
  rw [Try.params4] at hA hval
  obtain ⟨v0, vs0, d0, ds0, p0, q0, hargs, rfl, rfl, h0, r0⟩ := trodAll_cons hA
  obtain ⟨v1, vs1, d1, ds1, p1, q1, rfl, rfl, rfl, h1, r1⟩ := trodAll_cons r0
  obtain ⟨rfl, rfl, rfl⟩ := trodAll_nil r1
  obtain rfl : args = #[v0, v1] := by cases args; simp_all
  obtain ⟨rfl, rfl⟩ := trodVars_none hV
  have lt0 : ∀ x ∈ p0, x.block < W.heap.size := by obtain ⟨m, hm⟩ := h0; exact DataW.trod_lt m _ _ _ hm
  have lt1 : ∀ x ∈ p1, x.block < W.heap.size := by obtain ⟨m, hm⟩ := h1; exact DataW.trod_lt m _ _ _ hm
  obtain ⟨A0, n0, c0, b0, rfl, H0, M0, C0⟩ := open_bs Try.underlying22 Try.underlying5 (by kernel_rfl) (hval 0 22 v0 rfl rfl) h0
  obtain ⟨u0, u1, u2, u3, u4, y0, y1, y2, y3, y4, nn, rfl, hd, hp, z0, z1, z2, z3, z4⟩ := open_agg5 Try.underlying31 (by kernel_rfl) (by kernel_rfl) (hval 1 31 v1 rfl rfl) h1
  obtain ⟨s_, rfl, ws⟩ := one_int Try.underlying24 z0
  have bds := u32_bound ws
  obtain ⟨t_, rfl, wt⟩ := one_int Try.underlying24 z1
  have bdt := u32_bound wt
  obtain ⟨k_, rfl, wk⟩ := one_int Try.underlying3 z2
  have bdk := i64_bound wk
  obtain ⟨x_, rfl, wx⟩ := one_int Try.underlying5 z3
  have bdx := u8_bound wx
  obtain ⟨y_, rfl, wy⟩ := one_int Try.underlying5 z4
  have bdy := u8_bound wy
  obtain ⟨x, hx⟩ : ∃ c : UInt8, x_ = (c.toNat : Int) := ⟨UInt8.ofNat x_.toNat, by rw [UInt8.toNat_ofNat']; omega⟩
  subst hx
  obtain ⟨y, hy⟩ : ∃ c : UInt8, y_ = (c.toNat : Int) := ⟨UInt8.ofNat y_.toNat, by rw [UInt8.toNat_ofNat']; omega⟩
  subst hy
  clear hA0
  refine (rollSums_any A0 n0 c0 b0 s_ t_ k_ x y W H0 M0 bds.1 bds.2 bdt.1 bdt.2 bdk.1 bdk.2).mono fun e W' ⟨he, bel⟩ => ?_
  subst he
  exact ⟨_, rfl, _, _, _, [], _, [], hW', trodAll_mk1 (shut_bool Try.underlying4 _), (trodAll_cons_mk (Below.trod laidOut (by kernel_rfl) (of_decide_eq_true (by kernel_rfl)) h0 bel lt0) (trodAll_cons_mk (Below.trod laidOut (by kernel_rfl) (of_decide_eq_true (by kernel_rfl)) h1 bel lt1) trodAll_mk0)), rfl, bel.frame _, fun h => by cases h⟩

set_option maxRecDepth 100000 in
theorem lifted (os : Os) (started : os.Started) (H : Type) (enc : TypeId × Value → H) :
    ReturnsInHanded {} Try.checked os 4 .any (Rows.rollSumsSpec.pre6 enc Try.prog Try.f4 Rows.rollSumsRow.domain false) (Rows.rollSumsSpec.post enc Try.prog Try.f4 false true false false) := by
  refine returnsInHanded_of_change (C := Try.checked) own started (by kernel_rfl) Try.func4
    (ChangeSpec.witness6 (enc := enc) (C := Try.checked) false ⟨#[], #[.slice none 0 0, .agg #[.int .u32 0, .int .u32 0, .int .i64 0, .int .u8 0, .int .u8 0]], []⟩ 8 (by kernel_rfl) (by kernel_rfl) (by kernel_rfl) (by kernel_rfl)) ?_
  intro W base args ds gs before hval hW _ _
  exact contract H enc W base args ds gs before hval hW

theorem proved : Rows.RollSumsSaid :=
  OpenClaim.holds_of_wide 4 Try.f4 rfl rfl rfl rfl rfl rfl rfl ⟨rfl, rfl, rfl, rfl, rfl⟩ rfl rfl rfl rfl rfl (by kernel_rfl) Try.func4 (by kernel_rfl)
    (of_decide_eq_true (by kernel_rfl)) (by unfold Func.isWrapper; first | (rw [if_pos (by decide +kernel)]; kernel_rfl) | (rw [if_neg (by decide +kernel)]; exact ⟨rfl, rfl⟩))
    (fun os started H enc _ => lifted os started H enc)
#print axioms proved
end Go.Proofs.Ytaaajmonabhdgaa.rollSumsLaw
