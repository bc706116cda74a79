/- errors.As of the chains of package fault, at the targets *api.Errno and **fault.Error: closed facts on reflectlite's entries. -/
import Derived.Test.YtabjpnggihginaaDoorProg
import Derived.WalkKit
import Derived.LaidEql
import Derived.Stop.Asserts
import Derived.RowKitTokens
import Derived.Below
import Derived.Lib.Hide
import Derived.Deep.LoopGhost
namespace Go.Proofs.YtabjpnggihginaaDoor
open Go.RowKit Go.Extern.Stop Go.Stop Go.Extern

/-- the handle of a type -/
abbrev hd (T : TypeId) : Value := .pointer (some ⟨5, T, none⟩)
abbrev rt (T : TypeId) : Value := .iface 88 (.agg #[hd T])
abbrev rv (T : TypeId) (a : Addr) (fl : Int) : Value := .agg #[hd T, .pointer (some a), .int .u64 fl]

theorem valueOfI (t : Addr) (w : World) : (ReflectliteValue.unpack (.iface 63 (.pointer (some t)))).run Tryd.prog w = .ok (rv 63 ⟨w.heap.size, 0, none⟩ 150) (w.alloc (.cells #[.pointer (some t)] 63)) := by kernel_rfl
theorem valueOfE (t : Addr) (w : World) : (ReflectliteValue.unpack (.iface 70 (.pointer (some t)))).run Tryd.prog w = .ok (rv 70 ⟨w.heap.size, 0, none⟩ 150) (w.alloc (.cells #[.pointer (some t)] 70)) := by kernel_rfl
theorem valueOfN (n : Int) (w : World) : (ReflectliteValue.unpack (.iface 23 (.int .i64 n))).run Tryd.prog w = .ok (rv 23 ⟨w.heap.size, 0, none⟩ 130) (w.alloc (.cells #[.int .i64 n] 23)) := by kernel_rfl
theorem valueOfP (p : Addr) (w : World) : (ReflectliteValue.unpack (.iface 55 (.pointer (some p)))).run Tryd.prog w = .ok (rv 55 ⟨w.heap.size, 0, none⟩ 150) (w.alloc (.cells #[.pointer (some p)] 55)) := by kernel_rfl
theorem typeI (a : Addr) (w : World) : (ReflectliteValue.methodAny (ReflectliteValue.valueError "reflectlite.Value.Type" 0) (fun t _ _ _ => ReflectliteType.toType t) #[rv 63 a 150]).run Tryd.prog w = .ok (rt 63) w := by kernel_rfl
theorem typeE (a : Addr) (w : World) : (ReflectliteValue.methodAny (ReflectliteValue.valueError "reflectlite.Value.Type" 0) (fun t _ _ _ => ReflectliteType.toType t) #[rv 70 a 150]).run Tryd.prog w = .ok (rt 70) w := by kernel_rfl
theorem kindI (w : World) : ((ReflectliteType.abiMethod fun t => (fun a : Nat => Value.int IntKind.u8 (a : Int)) <$> Rtype.kind t) #[hd 63]).run Tryd.prog w = .ok (.int .u8 22) w := by kernel_rfl
theorem kindE (w : World) : ((ReflectliteType.abiMethod fun t => (fun a : Nat => Value.int IntKind.u8 (a : Int)) <$> Rtype.kind t) #[hd 70]).run Tryd.prog w = .ok (.int .u8 22) w := by kernel_rfl
theorem kindN (w : World) : ((ReflectliteType.abiMethod fun t => (fun a : Nat => Value.int IntKind.u8 (a : Int)) <$> Rtype.kind t) #[hd 23]).run Tryd.prog w = .ok (.int .u8 2) w := by kernel_rfl
theorem kindP (w : World) : ((ReflectliteType.abiMethod fun t => (fun a : Nat => Value.int IntKind.u8 (a : Int)) <$> Rtype.kind t) #[hd 55]).run Tryd.prog w = .ok (.int .u8 22) w := by kernel_rfl

theorem rlm (z : Sem Value) (f : TypeId → Addr → Nat → Nat → Sem Value) (v : Value) :
    ReflectliteValue.method z f #[v] = (do match ← ReflectliteValue.parts v with | none => z | some (t, a, fl) => f t a fl (fl % 32)) := rfl
theorem partsI (a : Addr) (w : World) : (ReflectliteValue.parts (rv 63 a 150)).run Tryd.prog w = .ok (some (63, a, 150)) w := by kernel_rfl
theorem partsE (a : Addr) (w : World) : (ReflectliteValue.parts (rv 70 a 150)).run Tryd.prog w = .ok (some (70, a, 150)) w := by kernel_rfl
theorem isNilI (a p : Addr) (W : World) (ha : W.cell? a = some (.pointer (some p))) :
    (ReflectliteValue.method (ReflectliteValue.valueError "reflectlite.Value.IsNil" 0) ReflectliteValue.isNil #[rv 63 a 150]).run Tryd.prog W = .ok (.bool false) W := by
  rw [rlm]
  simp only [Sem.run_bind, partsI, Result.andThen]
  simp [ReflectliteValue.isNil, loadVar, isAgg, underlying, Tryd.underlying63, ha, Result.andThen]
theorem isNilE (a p : Addr) (W : World) (ha : W.cell? a = some (.pointer (some p))) :
    (ReflectliteValue.method (ReflectliteValue.valueError "reflectlite.Value.IsNil" 0) ReflectliteValue.isNil #[rv 70 a 150]).run Tryd.prog W = .ok (.bool false) W := by
  rw [rlm]
  simp only [Sem.run_bind, partsE, Result.andThen]
  simp [ReflectliteValue.isNil, loadVar, isAgg, underlying, Tryd.underlying70, ha, Result.andThen]
theorem elemI (w : World) : (ReflectliteType.method ReflectliteType.elem #[.agg #[hd 63]]).run Tryd.prog w = .ok (rt 23) w := by kernel_rfl
theorem elemE (w : World) : (ReflectliteType.method ReflectliteType.elem #[.agg #[hd 70]]).run Tryd.prog w = .ok (rt 55) w := by kernel_rfl
theorem implN (w : World) : (ReflectliteType.relation "Implements" ReflectliteType.implements_ #[.agg #[hd 23], rt 27]).run Tryd.prog w = .ok (.bool true) w := by kernel_rfl
theorem implP (w : World) : (ReflectliteType.relation "Implements" ReflectliteType.implements_ #[.agg #[hd 55], rt 27]).run Tryd.prog w = .ok (.bool true) w := by kernel_rfl
theorem typeOfN (v : Value) (w : World) : (ReflectliteType.typeOf #[.iface 23 v]).run Tryd.prog w = .ok (rt 23) w := by kernel_rfl
theorem typeOfP (v : Value) (w : World) : (ReflectliteType.typeOf #[.iface 55 v]).run Tryd.prog w = .ok (rt 55) w := by kernel_rfl
theorem typeOfO (v : Value) (w : World) : (ReflectliteType.typeOf #[.iface 44 v]).run Tryd.prog w = .ok (rt 44) w := by kernel_rfl
theorem asgNN (w : World) : (ReflectliteType.relation "AssignableTo" ReflectliteType.assignableTo #[.agg #[hd 23], rt 23]).run Tryd.prog w = .ok (.bool true) w := by kernel_rfl
theorem asgNP (w : World) : (ReflectliteType.relation "AssignableTo" ReflectliteType.assignableTo #[.agg #[hd 23], rt 55]).run Tryd.prog w = .ok (.bool false) w := by kernel_rfl
theorem asgPN (w : World) : (ReflectliteType.relation "AssignableTo" ReflectliteType.assignableTo #[.agg #[hd 55], rt 23]).run Tryd.prog w = .ok (.bool false) w := by kernel_rfl
theorem asgPP (w : World) : (ReflectliteType.relation "AssignableTo" ReflectliteType.assignableTo #[.agg #[hd 55], rt 55]).run Tryd.prog w = .ok (.bool true) w := by kernel_rfl
theorem asgON (w : World) : (ReflectliteType.relation "AssignableTo" ReflectliteType.assignableTo #[.agg #[hd 44], rt 23]).run Tryd.prog w = .ok (.bool false) w := by kernel_rfl
theorem asgOP (w : World) : (ReflectliteType.relation "AssignableTo" ReflectliteType.assignableTo #[.agg #[hd 44], rt 55]).run Tryd.prog w = .ok (.bool false) w := by kernel_rfl

theorem elemOfI (w : World) : (Rtype.elem? 63).run Tryd.prog w = .ok (some 23) w := by kernel_rfl
theorem elemOfE (w : World) : (Rtype.elem? 70).run Tryd.prog w = .ok (some 55) w := by kernel_rfl
theorem mkN (p : Addr) (w : World) : (ReflectliteValue.mk 23 p ReflectliteValue.flagAddr).run Tryd.prog w = .ok (rv 23 p 386) w := by kernel_rfl
theorem mkP (p : Addr) (w : World) : (ReflectliteValue.mk 55 p ReflectliteValue.flagAddr).run Tryd.prog w = .ok (rv 55 p 406) w := by kernel_rfl
theorem elemVI (a p : Addr) (W : World) (ha : W.cell? a = some (.pointer (some p))) :
    (ReflectliteValue.method (ReflectliteValue.valueError "reflectlite.Value.Elem" 0) ReflectliteValue.elem #[rv 63 a 150]).run Tryd.prog W = .ok (rv 23 p 386) W := by
  rw [rlm]
  simp only [Sem.run_bind, partsI, Result.andThen]
  simp [ReflectliteValue.elem, loadVar, isAgg, underlying, Tryd.underlying63, ha, Result.andThen, elemOfI, mkN]
theorem elemVE (a p : Addr) (W : World) (ha : W.cell? a = some (.pointer (some p))) :
    (ReflectliteValue.method (ReflectliteValue.valueError "reflectlite.Value.Elem" 0) ReflectliteValue.elem #[rv 70 a 150]).run Tryd.prog W = .ok (rv 55 p 406) W := by
  rw [rlm]
  simp only [Sem.run_bind, partsE, Result.andThen]
  simp [ReflectliteValue.elem, loadVar, isAgg, underlying, Tryd.underlying70, ha, Result.andThen, elemOfE, mkP]
theorem rls (v x : Value) : ReflectliteValue.set #[v, x] = (do
    let (some (dst, a, fl), some (src, b, _)) := (← ReflectliteValue.parts v, ← ReflectliteValue.parts x)
      | unsupported (.noEntry "extern/(internal/reflectlite.Value).Set.zeroValue")
    if fl / ReflectliteValue.flagAddr % 2 == 0 then unsupported (.noEntry "extern/(internal/reflectlite.Value).Set.unaddressable")
    let val ← loadVar src b
    if ← Rtype.directlyAssignable dst src then storeVar dst a val
    else if ← Rtype.implements dst src then
      if (← Rtype.kind src) == 20 then
        match val with
        | .nilIface => unsupported (.noEntry "extern/reflectlite: a nil value of one interface type handed on as a value of another")
        | _ => storeVar dst a val
      else storeVar dst a (.iface src val)
    else panicString ("reflectlite.Set: value of type " ++ (← Rtype.spelt src) ++ " is not assignable to type " ++ (← Rtype.spelt dst))
    pure (.tuple #[])) := rfl
theorem partsNa (a : Addr) (w : World) : (ReflectliteValue.parts (rv 23 a 386)).run Tryd.prog w = .ok (some (23, a, 386)) w := by kernel_rfl
theorem partsN (a : Addr) (w : World) : (ReflectliteValue.parts (rv 23 a 130)).run Tryd.prog w = .ok (some (23, a, 130)) w := by kernel_rfl
theorem partsPa (a : Addr) (w : World) : (ReflectliteValue.parts (rv 55 a 406)).run Tryd.prog w = .ok (some (55, a, 406)) w := by kernel_rfl
theorem partsP (a : Addr) (w : World) : (ReflectliteValue.parts (rv 55 a 150)).run Tryd.prog w = .ok (some (55, a, 150)) w := by kernel_rfl
theorem directN (w : World) : (Rtype.directlyAssignable 23 23).run Tryd.prog w = .ok true w := by kernel_rfl
theorem directP (w : World) : (Rtype.directlyAssignable 55 55).run Tryd.prog w = .ok true w := by kernel_rfl
theorem setN (ta b : Addr) (n : Int) (old : Value) (W : World) (hb : W.cell? b = some (.int .i64 n)) (ht : W.cell? ta = some old) (hf : W.frozen? ta = false) :
    (ReflectliteValue.set #[rv 23 ta 386, rv 23 b 130]).run Tryd.prog W = .ok (.tuple #[]) (W.setCell ta (.int .i64 n)) := by
  rw [rls]
  simp only [Sem.run_bind, partsNa, partsN, Result.andThen]
  simp [ReflectliteValue.flagAddr, loadVar, isAgg, underlying, Tryd.underlying23, hb, Result.andThen, directN, storeVar, Value.cells, storeCells, Addr.add]
  rw [run_store Tryd.prog W ta _ _ (by rfl)]
  simp [ht, hf]
theorem setP (ta b e : Addr) (old : Value) (W : World) (hb : W.cell? b = some (.pointer (some e))) (ht : W.cell? ta = some old) (hf : W.frozen? ta = false) :
    (ReflectliteValue.set #[rv 55 ta 406, rv 55 b 150]).run Tryd.prog W = .ok (.tuple #[]) (W.setCell ta (.pointer (some e))) := by
  rw [rls]
  simp only [Sem.run_bind, partsPa, partsP, Result.andThen]
  simp [ReflectliteValue.flagAddr, loadVar, isAgg, underlying, Tryd.underlying55, hb, Result.andThen, directP, storeVar, Value.cells, storeCells, Addr.add]
  rw [run_store Tryd.prog W ta _ _ (by rfl)]
  simp [ht, hf]

end Go.Proofs.YtabjpnggihginaaDoor
