/- Errors: errors.As of a blame or of a number, by contracts; conditions: none beyond their hypotheses. -/
import Derived.Test.YthhhiiagppckhaaDoorMgBe1
set_option linter.unusedSimpArgs false
set_option linter.unusedVariables false
section
namespace Go.Proofs.YthhhiiagppckhaaDoor
open Go.RowKit Go.Proofs.U Go.Extern.Stop Go.Stop Go.Extern
set_option linter.unusedVariables false

def AsRet (R : Bool → World → Prop) (e : Ending) (w' : World) : Prop := ∃ b, e = .returned (.bool b) ∧ R b w'
def AsHit (w : World) (t : Addr) (v : Value) (e : Ending) (w' : World) : Prop := e = .returned (.bool true) ∧ ∃ wA, Below w.heap.size w wA ∧ w' = wA.setCell t v
def AsMiss (w : World) (e : Ending) (w' : World) : Prop := e = .returned (.bool false) ∧ Below w.heap.size w w'
theorem asNil_any (t : Value) (w : World) : Calls Tryd.prog 31 #[.nilIface, t] w fun e w' => e = .returned (.bool false) ∧ w = w' := by
  go_enter Tryd.func31, Tryd.ntmps31
  go_wp2
  go_ret
  exact ⟨rfl, rfl⟩

theorem cell_below {w w' : World} {a : Addr} {v : Value} (hc : w.cell? a = some v) (hb : Below w.heap.size w w') : w'.cell? a = some v := (hb.cell (World.block_lt_of_cell? w _ hc)).trans hc
theorem ErrT.below {w w' : World} (h : ErrT w) (hb : Below w.heap.size w w') : ErrT w' := cell_below h hb
theorem ErrT.lt {w : World} (h : ErrT w) : 0 < w.heap.size := World.block_lt_of_cell? w _ h

/-! the calls of the model's entries -/
namespace Bf
theorem cV (args : Array Value) (w : World) : (callFunc 69 args).run Tryd.prog w = (((fun args => ReflectliteValue.unpack (args.getD 0 (.tuple #[]))) args).run Tryd.prog w).andThen fun v w' => Result.ok (Next.value v) w' :=
  @run_callFunc_extern Tryd.prog 69 _ (fun args => ReflectliteValue.unpack (args.getD 0 (.tuple #[]))) Tryd.func69 (by kernel_rfl) (by kernel_rfl) (by kernel_rfl) (by kernel_rfl) args w
theorem cT (args : Array Value) (w : World) : (callFunc 70 args).run Tryd.prog w = (((ReflectliteValue.methodAny (ReflectliteValue.valueError "reflectlite.Value.Type" 0) (fun t _ _ _ => ReflectliteType.toType t)) args).run Tryd.prog w).andThen fun v w' => Result.ok (Next.value v) w' :=
  @run_callFunc_extern Tryd.prog 70 _ (ReflectliteValue.methodAny (ReflectliteValue.valueError "reflectlite.Value.Type" 0) (fun t _ _ _ => ReflectliteType.toType t)) Tryd.func70 (by kernel_rfl) (by kernel_rfl) (by kernel_rfl) (by kernel_rfl) args w
theorem cN (args : Array Value) (w : World) : (callFunc 71 args).run Tryd.prog w = (((ReflectliteValue.method (ReflectliteValue.valueError "reflectlite.Value.IsNil" 0) ReflectliteValue.isNil) args).run Tryd.prog w).andThen fun v w' => Result.ok (Next.value v) w' :=
  @run_callFunc_extern Tryd.prog 71 _ (ReflectliteValue.method (ReflectliteValue.valueError "reflectlite.Value.IsNil" 0) ReflectliteValue.isNil) Tryd.func71 (by kernel_rfl) (by kernel_rfl) (by kernel_rfl) (by kernel_rfl) args w
theorem cK (args : Array Value) (w : World) : (callFunc 146 args).run Tryd.prog w = (((ReflectliteType.abiMethod fun t => do pure (.int .u8 (← Rtype.kind t))) args).run Tryd.prog w).andThen fun v w' => Result.ok (Next.value v) w' :=
  @run_callFunc_extern Tryd.prog 146 _ (ReflectliteType.abiMethod fun t => do pure (.int .u8 (← Rtype.kind t))) Tryd.func146 (by kernel_rfl) (by kernel_rfl) (by kernel_rfl) (by kernel_rfl) args w
theorem cE (args : Array Value) (w : World) : (callFunc 155 args).run Tryd.prog w = (((ReflectliteType.method ReflectliteType.elem) args).run Tryd.prog w).andThen fun v w' => Result.ok (Next.value v) w' :=
  @run_callFunc_extern Tryd.prog 155 _ (ReflectliteType.method ReflectliteType.elem) Tryd.func155 (by kernel_rfl) (by kernel_rfl) (by kernel_rfl) (by kernel_rfl) args w
theorem cI (args : Array Value) (w : World) : (callFunc 156 args).run Tryd.prog w = (((ReflectliteType.relation "Implements" ReflectliteType.implements_) args).run Tryd.prog w).andThen fun v w' => Result.ok (Next.value v) w' :=
  @run_callFunc_extern Tryd.prog 156 _ (ReflectliteType.relation "Implements" ReflectliteType.implements_) Tryd.func156 (by kernel_rfl) (by kernel_rfl) (by kernel_rfl) (by kernel_rfl) args w
theorem cO (args : Array Value) (w : World) : (callFunc 80 args).run Tryd.prog w = ((ReflectliteType.typeOf args).run Tryd.prog w).andThen fun v w' => Result.ok (Next.value v) w' :=
  @run_callFunc_extern Tryd.prog 80 _ ReflectliteType.typeOf Tryd.func80 (by kernel_rfl) (by kernel_rfl) (by kernel_rfl) (by kernel_rfl) args w
theorem cA (args : Array Value) (w : World) : (callFunc 153 args).run Tryd.prog w = (((ReflectliteType.relation "AssignableTo" ReflectliteType.assignableTo) args).run Tryd.prog w).andThen fun v w' => Result.ok (Next.value v) w' :=
  @run_callFunc_extern Tryd.prog 153 _ (ReflectliteType.relation "AssignableTo" ReflectliteType.assignableTo) Tryd.func153 (by kernel_rfl) (by kernel_rfl) (by kernel_rfl) (by kernel_rfl) args w
theorem cL (args : Array Value) (w : World) : (callFunc 96 args).run Tryd.prog w = (((ReflectliteValue.method (ReflectliteValue.valueError "reflectlite.Value.Elem" 0) ReflectliteValue.elem) args).run Tryd.prog w).andThen fun v w' => Result.ok (Next.value v) w' :=
  @run_callFunc_extern Tryd.prog 96 _ (ReflectliteValue.method (ReflectliteValue.valueError "reflectlite.Value.Elem" 0) ReflectliteValue.elem) Tryd.func96 (by kernel_rfl) (by kernel_rfl) (by kernel_rfl) (by kernel_rfl) args w
theorem cS (args : Array Value) (w : World) : (callFunc 97 args).run Tryd.prog w = ((ReflectliteValue.set args).run Tryd.prog w).andThen fun v w' => Result.ok (Next.value v) w' :=
  @run_callFunc_extern Tryd.prog 97 _ ReflectliteValue.set Tryd.func97 (by kernel_rfl) (by kernel_rfl) (by kernel_rfl) (by kernel_rfl) args w
end Bf

end Go.Proofs.YthhhiiagppckhaaDoor
end
