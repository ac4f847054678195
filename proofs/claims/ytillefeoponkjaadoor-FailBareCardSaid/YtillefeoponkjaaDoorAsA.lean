/- errors.As: closed facts on the model's entries for internal/reflectlite, at this program's types. (The worked example 'toyas' of the guide, turned to the types of this program.) -/
import Derived.Test.YtillefeoponkjaaDoorFailA
import Derived.Test.YtillefeoponkjaaDoorWalk
import Derived.LaidEql
import Derived.Stop.Asserts
import Derived.RowKitTokens
namespace Go.Proofs.YtillefeoponkjaaDoor
open Go.RowKit Go.Extern.Stop Go.Stop Go.Extern
set_option linter.unusedVariables false
set_option linter.unusedSimpArgs false
/-- The handle of a type. -/
def hnd (t : Nat) : Value := .pointer (some ⟨4, t, none⟩)
def rty (t : Nat) : Value := .iface 77 (.agg #[hnd t])
def rval (t : Nat) (a : Addr) (f : Int) : Value := .agg #[hnd t, .pointer (some a), .int .u64 f]
theorem rv_valueOfP (t : Addr) (w : World) : (ReflectliteValue.unpack (.iface 53 (.pointer (some t)))).run Tryd.prog w
    = .ok (rval 53 ⟨w.heap.size, 0, none⟩ 150) (w.alloc (.cells #[.pointer (some t)] 53)) := by kernel_rfl
theorem rv_typeP (a : Addr) (w : World) : (ReflectliteValue.methodAny (ReflectliteValue.valueError "reflectlite.Value.Type" 0) (fun t _ _ _ => ReflectliteType.toType t) #[rval 53 a 150]).run Tryd.prog w = .ok (rty 53) w := by kernel_rfl
theorem rv_methodKind (h : Value) (w : World) : (Go.method 237 77 (.agg #[h]) "Kind").run Tryd.prog w = .ok (62, h) w := by kernel_rfl
theorem rv_kindP (w : World) : ((ReflectliteType.abiMethod fun t => (fun a : Nat => Value.int IntKind.u8 (a : Int)) <$> Rtype.kind t) #[hnd 53]).run Tryd.prog w = .ok (.int .u8 22) w := by kernel_rfl
theorem rv_kindC (w : World) : ((ReflectliteType.abiMethod fun t => (fun a : Nat => Value.int IntKind.u8 (a : Int)) <$> Rtype.kind t) #[hnd 22]).run Tryd.prog w = .ok (.int .u8 2) w := by kernel_rfl
theorem rlm (z : Sem Value) (f : TypeId → Addr → Nat → Nat → Sem Value) (v : Value) :
    ReflectliteValue.method z f #[v] = (do match ← ReflectliteValue.parts v with | none => z | some (t, a, fl) => f t a fl (fl % 32)) := rfl
theorem rv_partsP (a : Addr) (w : World) : (ReflectliteValue.parts (rval 53 a 150)).run Tryd.prog w = .ok (some (53, a, 150)) w := by kernel_rfl
theorem rv_isNilP (a p : Addr) (W : World) (ha : W.cell? a = some (.pointer (some p))) :
    (ReflectliteValue.method (ReflectliteValue.valueError "reflectlite.Value.IsNil" 0) ReflectliteValue.isNil #[rval 53 a 150]).run Tryd.prog W = .ok (.bool false) W := by
  rw [rlm]
  simp only [Sem.run_bind, rv_partsP, Result.andThen]
  simp [ReflectliteValue.isNil, loadVar, isAgg, underlying, Tryd.underlying53, ha, Result.andThen]
theorem rv_methodElem (h : Value) (w : World) : (Go.method 237 77 (.agg #[h]) "Elem").run Tryd.prog w = .ok (73, .agg #[h]) w := by kernel_rfl
theorem rv_methodImplements (h : Value) (w : World) : (Go.method 237 77 (.agg #[h]) "Implements").run Tryd.prog w = .ok (74, .agg #[h]) w := by kernel_rfl
theorem rv_methodAssignableTo (h : Value) (w : World) : (Go.method 237 77 (.agg #[h]) "AssignableTo").run Tryd.prog w = .ok (71, .agg #[h]) w := by kernel_rfl
theorem rv_elemP (w : World) : (ReflectliteType.method ReflectliteType.elem #[.agg #[hnd 53]]).run Tryd.prog w = .ok (rty 22) w := by kernel_rfl
theorem rv_implC (w : World) : (ReflectliteType.relation "Implements" ReflectliteType.implements_ #[.agg #[hnd 22], rty 29]).run Tryd.prog w = .ok (.bool true) w := by kernel_rfl
theorem rv_typeOfC (v : Value) (w : World) : (ReflectliteType.typeOf #[.iface 22 v]).run Tryd.prog w = .ok (rty 22) w := by kernel_rfl
theorem rv_typeOfN (v : Value) (w : World) : (ReflectliteType.typeOf #[.iface 57 v]).run Tryd.prog w = .ok (rty 57) w := by kernel_rfl
theorem rv_typeOfE (v : Value) (w : World) : (ReflectliteType.typeOf #[.iface 41 v]).run Tryd.prog w = .ok (rty 41) w := by kernel_rfl
theorem rv_asgCC (w : World) : (ReflectliteType.relation "AssignableTo" ReflectliteType.assignableTo #[.agg #[hnd 22], rty 22]).run Tryd.prog w = .ok (.bool true) w := by kernel_rfl
theorem rv_asgNC (w : World) : (ReflectliteType.relation "AssignableTo" ReflectliteType.assignableTo #[.agg #[hnd 57], rty 22]).run Tryd.prog w = .ok (.bool false) w := by kernel_rfl
theorem rv_asgEC (w : World) : (ReflectliteType.relation "AssignableTo" ReflectliteType.assignableTo #[.agg #[hnd 41], rty 22]).run Tryd.prog w = .ok (.bool false) w := by kernel_rfl
theorem rv_valueOfC (n : Int) (w : World) : (ReflectliteValue.unpack (.iface 22 (.int .i64 n))).run Tryd.prog w
    = .ok (rval 22 ⟨w.heap.size, 0, none⟩ 130) (w.alloc (.cells #[.int .i64 n] 22)) := by kernel_rfl
theorem rv_elemOfP (w : World) : (Rtype.elem? 53).run Tryd.prog w = .ok (some 22) w := by kernel_rfl
theorem rv_mkC (p : Addr) (w : World) : (ReflectliteValue.mk 22 p ReflectliteValue.flagAddr).run Tryd.prog w = .ok (rval 22 p 386) w := by kernel_rfl
theorem rv_elemVP (a p : Addr) (W : World) (ha : W.cell? a = some (.pointer (some p))) :
    (ReflectliteValue.method (ReflectliteValue.valueError "reflectlite.Value.Elem" 0) ReflectliteValue.elem #[rval 53 a 150]).run Tryd.prog W = .ok (rval 22 p 386) W := by
  rw [rlm]
  simp only [Sem.run_bind, rv_partsP, Result.andThen]
  simp [ReflectliteValue.elem, loadVar, isAgg, underlying, Tryd.underlying53, ha, Result.andThen, rv_elemOfP, rv_mkC]
theorem rls (v x : Value) : ReflectliteValue.set #[v, x] = (do
    let (some (dst, a, fl), some (src, b, _)) := (← ReflectliteValue.parts v, ← ReflectliteValue.parts x)
      | unsupported (.noEntry "extern/(internal/reflectlite.Value).Set.zeroValue")
    if fl / ReflectliteValue.flagAddr % 2 == 0 then unsupported (.noEntry "extern/(internal/reflectlite.Value).Set.unaddressable")
    let val ← loadVar src b
    if ← Rtype.directlyAssignable dst src then storeVar dst a val
    else if ← Rtype.implements dst src then
      if (← Rtype.kind src) == 20 then
        match val with
        | .nilIface => unsupported (.noEntry "extern/reflectlite: a nil value of one interface type handed on as a value of another")
        | _ => storeVar dst a val
      else storeVar dst a (.iface src val)
    else panicString ("reflectlite.Set: value of type " ++ (← Rtype.spelt src) ++ " is not assignable to type " ++ (← Rtype.spelt dst))
    pure (.tuple #[])) := rfl
theorem rv_partsCa (a : Addr) (w : World) : (ReflectliteValue.parts (rval 22 a 386)).run Tryd.prog w = .ok (some (22, a, 386)) w := by kernel_rfl
theorem rv_partsC (a : Addr) (w : World) : (ReflectliteValue.parts (rval 22 a 130)).run Tryd.prog w = .ok (some (22, a, 130)) w := by kernel_rfl
theorem rv_directC (w : World) : (Rtype.directlyAssignable 22 22).run Tryd.prog w = .ok true w := by kernel_rfl
theorem rv_setC (ta b : Addr) (n : Int) (old : Value) (W : World) (hb : W.cell? b = some (.int .i64 n)) (ht : W.cell? ta = some old) (hf : W.frozen? ta = false) :
    (ReflectliteValue.set #[rval 22 ta 386, rval 22 b 130]).run Tryd.prog W = .ok (.tuple #[]) (W.setCell ta (.int .i64 n)) := by
  rw [rls]
  simp only [Sem.run_bind, rv_partsCa, rv_partsC, Result.andThen]
  simp [ReflectliteValue.flagAddr, loadVar, isAgg, underlying, Tryd.underlying22, hb, Result.andThen, rv_directC, storeVar, Value.cells, storeCells, Addr.add]
  rw [run_store Tryd.prog W ta _ _ (by rfl)]
  simp [ht, hf]
end Go.Proofs.YtillefeoponkjaaDoor
