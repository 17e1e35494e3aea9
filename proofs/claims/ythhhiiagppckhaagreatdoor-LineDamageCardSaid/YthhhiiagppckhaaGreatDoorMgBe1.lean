/- Errors: facts on the model's entries for reflection at this program's types; conditions: none beyond their hypotheses. -/
import Derived.Test.YthhhiiagppckhaaGreatDoorRows
import Derived.Test.YthhhiiagppckhaaGreatDoorMgU
import Derived.Test.YthhhiiagppckhaaGreatDoorMgSl
import Derived.LaidEql
import Derived.Stop.Asserts
import Derived.RowKitTokens
set_option linter.unusedSimpArgs false
set_option linter.unusedVariables false
section
namespace Go.Proofs.YthhhiiagppckhaaGreatDoor
open Go.RowKit Go.Proofs.U Go.Extern.Stop Go.Stop Go.Extern
set_option linter.unusedVariables false

/-- the block of the types' handles -/
noncomputable def RB : Nat := Tryz.prog.globals.size
noncomputable abbrev hd (t : TypeId) : Value := .pointer (some ⟨RB, t, none⟩)
/-- a value of reflection: its type, its variable -/
noncomputable abbrev rv (t : TypeId) (a : Addr) (fl : Int) : Value := .agg #[hd t, .pointer (some a), .int .u64 fl]
noncomputable abbrev rt (t : TypeId) : Value := .iface 127 (.agg #[hd t])
/-- the variable errors.errorType -/
def ErrT (w : World) : Prop := w.cell? ⟨0, 0, none⟩ = some (rt 42)

namespace Bf
theorem valueOfB (t : Addr) (w : World) : (ReflectliteValue.unpack (.iface 137 (.pointer (some t)))).run Tryz.prog w = .ok (rv 137 ⟨w.heap.size, 0, none⟩ 150) (w.alloc (.cells #[.pointer (some t)] 137)) := by kernel_rfl
theorem typeB (a : Addr) (w : World) : (ReflectliteValue.methodAny (ReflectliteValue.valueError "reflectlite.Value.Type" 0) (fun t _ _ _ => ReflectliteType.toType t) #[rv 137 a 150]).run Tryz.prog w = .ok (rt 137) w := by kernel_rfl
theorem valueOfE (t : Addr) (w : World) : (ReflectliteValue.unpack (.iface 138 (.pointer (some t)))).run Tryz.prog w = .ok (rv 138 ⟨w.heap.size, 0, none⟩ 150) (w.alloc (.cells #[.pointer (some t)] 138)) := by kernel_rfl
theorem typeE (a : Addr) (w : World) : (ReflectliteValue.methodAny (ReflectliteValue.valueError "reflectlite.Value.Type" 0) (fun t _ _ _ => ReflectliteType.toType t) #[rv 138 a 150]).run Tryz.prog w = .ok (rt 138) w := by kernel_rfl
theorem valueOfb (e : Option Addr) (w : World) : (ReflectliteValue.unpack (.iface 122 (.pointer e))).run Tryz.prog w = .ok (rv 122 ⟨w.heap.size, 0, none⟩ 150) (w.alloc (.cells #[.pointer e] 122)) := by kernel_rfl
theorem valueOfe (c : Int) (w : World) : (ReflectliteValue.unpack (.iface 23 (.int .i64 c))).run Tryz.prog w = .ok (rv 23 ⟨w.heap.size, 0, none⟩ 130) (w.alloc (.cells #[.int .i64 c] 23)) := by kernel_rfl
theorem mKind (n : Nat) (h : Value) (w : World) : (Go.method (n + 1) 127 (.agg #[h]) "Kind").run Tryz.prog w = .ok (100, h) w := by kernel_rfl
theorem mElem (n : Nat) (h : Value) (w : World) : (Go.method (n + 1) 127 (.agg #[h]) "Elem").run Tryz.prog w = .ok (109, .agg #[h]) w := by kernel_rfl
theorem mImplements (n : Nat) (h : Value) (w : World) : (Go.method (n + 1) 127 (.agg #[h]) "Implements").run Tryz.prog w = .ok (110, .agg #[h]) w := by kernel_rfl
theorem mAssignableTo (n : Nat) (h : Value) (w : World) : (Go.method (n + 1) 127 (.agg #[h]) "AssignableTo").run Tryz.prog w = .ok (107, .agg #[h]) w := by kernel_rfl
theorem mComparable (n : Nat) (h : Value) (w : World) : (Go.method (n + 1) 127 (.agg #[h]) "Comparable").run Tryz.prog w = .ok (108, .agg #[h]) w := by kernel_rfl
theorem kindB (w : World) : ((ReflectliteType.abiMethod fun t => (fun a : Nat => Value.int IntKind.u8 (a : Int)) <$> Rtype.kind t) #[hd 137]).run Tryz.prog w = .ok (.int .u8 22) w := by kernel_rfl
theorem kindE (w : World) : ((ReflectliteType.abiMethod fun t => (fun a : Nat => Value.int IntKind.u8 (a : Int)) <$> Rtype.kind t) #[hd 138]).run Tryz.prog w = .ok (.int .u8 22) w := by kernel_rfl
theorem kindb (w : World) : ((ReflectliteType.abiMethod fun t => (fun a : Nat => Value.int IntKind.u8 (a : Int)) <$> Rtype.kind t) #[hd 122]).run Tryz.prog w = .ok (.int .u8 22) w := by kernel_rfl
theorem kinde (w : World) : ((ReflectliteType.abiMethod fun t => (fun a : Nat => Value.int IntKind.u8 (a : Int)) <$> Rtype.kind t) #[hd 23]).run Tryz.prog w = .ok (.int .u8 2) w := by kernel_rfl
theorem rlm (z : Sem Value) (f : TypeId → Addr → Nat → Nat → Sem Value) (v : Value) : ReflectliteValue.method z f #[v] = (do match ← ReflectliteValue.parts v with | none => z | some (t, a, fl) => f t a fl (fl % 32)) := rfl
theorem partsB (a : Addr) (w : World) : (ReflectliteValue.parts (rv 137 a 150)).run Tryz.prog w = .ok (some (137, a, 150)) w := by kernel_rfl
theorem isNilB (a p : Addr) (W : World) (ha : W.cell? a = some (.pointer (some p))) : (ReflectliteValue.method (ReflectliteValue.valueError "reflectlite.Value.IsNil" 0) ReflectliteValue.isNil #[rv 137 a 150]).run Tryz.prog W = .ok (.bool false) W := by
  rw [rlm]
  simp only [Sem.run_bind, partsB, Result.andThen]
  simp [ReflectliteValue.isNil, loadVar, isAgg, underlying, Tryz.underlying137, ha, Result.andThen]
theorem partsE (a : Addr) (w : World) : (ReflectliteValue.parts (rv 138 a 150)).run Tryz.prog w = .ok (some (138, a, 150)) w := by kernel_rfl
theorem isNilE (a p : Addr) (W : World) (ha : W.cell? a = some (.pointer (some p))) : (ReflectliteValue.method (ReflectliteValue.valueError "reflectlite.Value.IsNil" 0) ReflectliteValue.isNil #[rv 138 a 150]).run Tryz.prog W = .ok (.bool false) W := by
  rw [rlm]
  simp only [Sem.run_bind, partsE, Result.andThen]
  simp [ReflectliteValue.isNil, loadVar, isAgg, underlying, Tryz.underlying138, ha, Result.andThen]
theorem elemB (w : World) : (ReflectliteType.method ReflectliteType.elem #[.agg #[hd 137]]).run Tryz.prog w = .ok (rt 122) w := by kernel_rfl
theorem elemOfB (w : World) : (Rtype.elem? 137).run Tryz.prog w = .ok (some 122) w := by kernel_rfl
theorem elemE (w : World) : (ReflectliteType.method ReflectliteType.elem #[.agg #[hd 138]]).run Tryz.prog w = .ok (rt 23) w := by kernel_rfl
theorem elemOfE (w : World) : (Rtype.elem? 138).run Tryz.prog w = .ok (some 23) w := by kernel_rfl
theorem implb (w : World) : (ReflectliteType.relation "Implements" ReflectliteType.implements_ #[.agg #[hd 122], rt 42]).run Tryz.prog w = .ok (.bool true) w := by kernel_rfl
theorem typeOfb (v : Value) (w : World) : (ReflectliteType.typeOf #[.iface 122 v]).run Tryz.prog w = .ok (rt 122) w := by kernel_rfl
theorem imple (w : World) : (ReflectliteType.relation "Implements" ReflectliteType.implements_ #[.agg #[hd 23], rt 42]).run Tryz.prog w = .ok (.bool true) w := by kernel_rfl
theorem typeOfe (v : Value) (w : World) : (ReflectliteType.typeOf #[.iface 23 v]).run Tryz.prog w = .ok (rt 23) w := by kernel_rfl
theorem asg_b_b (w : World) : (ReflectliteType.relation "AssignableTo" ReflectliteType.assignableTo #[.agg #[hd 122], rt 122]).run Tryz.prog w = .ok (.bool true) w := by kernel_rfl
theorem asg_b_e (w : World) : (ReflectliteType.relation "AssignableTo" ReflectliteType.assignableTo #[.agg #[hd 122], rt 23]).run Tryz.prog w = .ok (.bool false) w := by kernel_rfl
theorem asg_e_b (w : World) : (ReflectliteType.relation "AssignableTo" ReflectliteType.assignableTo #[.agg #[hd 23], rt 122]).run Tryz.prog w = .ok (.bool false) w := by kernel_rfl
theorem asg_e_e (w : World) : (ReflectliteType.relation "AssignableTo" ReflectliteType.assignableTo #[.agg #[hd 23], rt 23]).run Tryz.prog w = .ok (.bool true) w := by kernel_rfl
theorem mkb (p : Addr) (w : World) : (ReflectliteValue.mk 122 p ReflectliteValue.flagAddr).run Tryz.prog w = .ok (rv 122 p 406) w := by kernel_rfl
theorem elemVB (a p : Addr) (W : World) (ha : W.cell? a = some (.pointer (some p))) : (ReflectliteValue.method (ReflectliteValue.valueError "reflectlite.Value.Elem" 0) ReflectliteValue.elem #[rv 137 a 150]).run Tryz.prog W = .ok (rv 122 p 406) W := by
  rw [rlm]
  simp only [Sem.run_bind, partsB, Result.andThen]
  simp [ReflectliteValue.elem, loadVar, isAgg, underlying, Tryz.underlying137, ha, Result.andThen, elemOfB, mkb]
theorem mke (p : Addr) (w : World) : (ReflectliteValue.mk 23 p ReflectliteValue.flagAddr).run Tryz.prog w = .ok (rv 23 p 386) w := by kernel_rfl
theorem elemVE (a p : Addr) (W : World) (ha : W.cell? a = some (.pointer (some p))) : (ReflectliteValue.method (ReflectliteValue.valueError "reflectlite.Value.Elem" 0) ReflectliteValue.elem #[rv 138 a 150]).run Tryz.prog W = .ok (rv 23 p 386) W := by
  rw [rlm]
  simp only [Sem.run_bind, partsE, Result.andThen]
  simp [ReflectliteValue.elem, loadVar, isAgg, underlying, Tryz.underlying138, ha, Result.andThen, elemOfE, mke]
theorem rls (v x : Value) : ReflectliteValue.set #[v, x] = (do
    let (some (dst, a, fl), some (src, b, _)) := (← ReflectliteValue.parts v, ← ReflectliteValue.parts x)
      | unsupported (.noEntry "extern/(internal/reflectlite.Value).Set.zeroValue")
    if fl / ReflectliteValue.flagAddr % 2 == 0 then unsupported (.noEntry "extern/(internal/reflectlite.Value).Set.unaddressable")
    let val ← loadVar src b
    if ← Rtype.directlyAssignable dst src then storeVar dst a val
    else if ← Rtype.implements dst src then
      if (← Rtype.kind src) == 20 then
        match val with
        | .nilIface => unsupported (.noEntry "extern/reflectlite: a nil value of one interface type handed on as a value of another")
        | _ => storeVar dst a val
      else storeVar dst a (.iface src val)
    else panicString ("reflectlite.Set: value of type " ++ (← Rtype.spelt src) ++ " is not assignable to type " ++ (← Rtype.spelt dst))
    pure (.tuple #[])) := rfl
theorem partsba (a : Addr) (w : World) : (ReflectliteValue.parts (rv 122 a 406)).run Tryz.prog w = .ok (some (122, a, 406)) w := by kernel_rfl
theorem partsb (a : Addr) (w : World) : (ReflectliteValue.parts (rv 122 a 150)).run Tryz.prog w = .ok (some (122, a, 150)) w := by kernel_rfl
theorem directb (w : World) : (Rtype.directlyAssignable 122 122).run Tryz.prog w = .ok true w := by kernel_rfl
theorem setb (ta b : Addr) (e : Option Addr) (old : Value) (W : World) (hb : W.cell? b = some (.pointer e)) (ht : W.cell? ta = some old) (hf : W.frozen? ta = false) :
    (ReflectliteValue.set #[rv 122 ta 406, rv 122 b 150]).run Tryz.prog W = .ok (.tuple #[]) (W.setCell ta (.pointer e)) := by
  rw [rls]
  simp only [Sem.run_bind, partsba, partsb, Result.andThen]
  simp [ReflectliteValue.flagAddr, loadVar, isAgg, underlying, Tryz.underlying122, hb, Result.andThen, directb, storeVar, Value.cells, storeCells, Addr.add]
  rw [run_store Tryz.prog W ta _ _ (by rfl)]
  simp [ht, hf]
theorem partsea (a : Addr) (w : World) : (ReflectliteValue.parts (rv 23 a 386)).run Tryz.prog w = .ok (some (23, a, 386)) w := by kernel_rfl
theorem partse (a : Addr) (w : World) : (ReflectliteValue.parts (rv 23 a 130)).run Tryz.prog w = .ok (some (23, a, 130)) w := by kernel_rfl
theorem directe (w : World) : (Rtype.directlyAssignable 23 23).run Tryz.prog w = .ok true w := by kernel_rfl
theorem sete (ta b : Addr) (e : Int) (old : Value) (W : World) (hb : W.cell? b = some (.int .i64 e)) (ht : W.cell? ta = some old) (hf : W.frozen? ta = false) :
    (ReflectliteValue.set #[rv 23 ta 386, rv 23 b 130]).run Tryz.prog W = .ok (.tuple #[]) (W.setCell ta (.int .i64 e)) := by
  rw [rls]
  simp only [Sem.run_bind, partsea, partse, Result.andThen]
  simp [ReflectliteValue.flagAddr, loadVar, isAgg, underlying, Tryz.underlying23, hb, Result.andThen, directe, storeVar, Value.cells, storeCells, Addr.add]
  rw [run_store Tryz.prog W ta _ _ (by rfl)]
  simp [ht, hf]
theorem noAs_b (v : Value) (xT : TypeId) (w : World) : (Instr.typeAssert (.iface 122 v) xT 160 true).run Tryz.prog w = .ok (.tuple #[.nilIface, .bool false]) w := run_typeAssert_lacksB Tryz.underlying160 (by kernel_rfl) (by kernel_rfl) v xT w
theorem noUnwrap_b (v : Value) (xT : TypeId) (w : World) : (Instr.typeAssert (.iface 122 v) xT 132 true).run Tryz.prog w = .ok (.tuple #[.nilIface, .bool false]) w := run_typeAssert_lacksB Tryz.underlying132 (by kernel_rfl) (by kernel_rfl) v xT w
theorem noIs_b (v : Value) (xT : TypeId) (w : World) : (Instr.typeAssert (.iface 122 v) xT 129 true).run Tryz.prog w = .ok (.tuple #[.nilIface, .bool false]) w := run_typeAssert_lacksB Tryz.underlying129 (by kernel_rfl) (by kernel_rfl) v xT w
theorem noAs_e (v : Value) (xT : TypeId) (w : World) : (Instr.typeAssert (.iface 23 v) xT 160 true).run Tryz.prog w = .ok (.tuple #[.nilIface, .bool false]) w := run_typeAssert_lacksB Tryz.underlying160 (by kernel_rfl) (by kernel_rfl) v xT w
theorem noUnwrap_e (v : Value) (xT : TypeId) (w : World) : (Instr.typeAssert (.iface 23 v) xT 132 true).run Tryz.prog w = .ok (.tuple #[.nilIface, .bool false]) w := run_typeAssert_lacksB Tryz.underlying132 (by kernel_rfl) (by kernel_rfl) v xT w
theorem noIs_e (v : Value) (xT : TypeId) (w : World) : (Instr.typeAssert (.iface 23 v) xT 129 true).run Tryz.prog w = .ok (.tuple #[.nilIface, .bool false]) w := run_typeAssert_lacksB Tryz.underlying129 (by kernel_rfl) (by kernel_rfl) v xT w
theorem noUnwraps_e (v : Value) (xT : TypeId) (w : World) : (Instr.typeAssert (.iface 23 v) xT 134 true).run Tryz.prog w = .ok (.tuple #[.nilIface, .bool false]) w := run_typeAssert_lacksB Tryz.underlying134 (by kernel_rfl) (by kernel_rfl) v xT w
theorem hasUnwraps_b (v : Value) (xT : TypeId) (w : World) : (Instr.typeAssert (.iface 122 v) xT 134 true).run Tryz.prog w = .ok (.tuple #[.iface 122 v, .bool true]) w := run_typeAssert_hasB Tryz.underlying134 (by kernel_rfl) v xT w
theorem mUnwraps (n : Nat) (e : Option Addr) (w : World) : (Go.method (n + 1) 122 (.pointer e) "Unwrap").run Tryz.prog w = .ok (67, .pointer e) w := by kernel_rfl
theorem mError (n : Nat) (e : Option Addr) (w : World) : (Go.method (n + 1) 122 (.pointer e) "Error").run Tryz.prog w = .ok (105, .pointer e) w := by kernel_rfl
end Bf
end Go.Proofs.YthhhiiagppckhaaGreatDoor
end
