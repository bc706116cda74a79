/- errors.Is(a *strconv.NumError, strconv.ErrRange). (Groundwork for money.Parse at large.) -/
import Derived.Test.YtikjnfghlohjkaaDoorMonP
import Derived.LaidEql
import Derived.Stop.Asserts
import Derived.RowKitTokens
namespace Go.Proofs.YtikjnfghlohjkaaDoor
open Go.RowKit Go.Extern.Stop Go.Stop Go.Extern Go.Lib

/-- the handle of a type -/
abbrev hd (T : TypeId) : Value := .pointer (some ⟨10, T, none⟩)
abbrev rt (T : TypeId) : Value := .iface 90 (.agg #[hd T])
theorem xTypeOf (args : Array Value) (w : World) : (callFunc 53 args).run Tryd.prog w = (((ReflectliteType.typeOf) args).run Tryd.prog w).andThen fun v w' => .ok (.value v) w' :=
  run_callFunc_extern (e := ReflectliteType.typeOf) Tryd.func53 (by kernel_rfl) (by kernel_rfl) (by kernel_rfl) (by kernel_rfl) args w
theorem xComp (args : Array Value) (w : World) : (callFunc 119 args).run Tryd.prog w = (((ReflectliteType.method (fun t => do Rtype.noPackHeld "Comparable" t; pure (.bool (← typeInfo t).comparable))) args).run Tryd.prog w).andThen fun v w' => .ok (.value v) w' :=
  run_callFunc_extern (e := ReflectliteType.method (fun t => do Rtype.noPackHeld "Comparable" t; pure (.bool (← typeInfo t).comparable))) Tryd.func119 (by kernel_rfl) (by kernel_rfl) (by kernel_rfl) (by kernel_rfl) args w
theorem compS (w : World) : (ReflectliteType.method (fun t => do Rtype.noPackHeld "Comparable" t; (fun a => Value.bool a.comparable) <$> typeInfo t) #[.agg #[hd 126]]).run Tryd.prog w = .ok (.bool true) w := by kernel_rfl
theorem typeOfS (v : Value) (w : World) : (ReflectliteType.typeOf #[.iface 126 v]).run Tryd.prog w = .ok (rt 126) w := by kernel_rfl
theorem mComp (h : Value) (w : World) : (Go.method 265 90 (.agg #[h]) "Comparable").run Tryd.prog w = .ok (119, .agg #[h]) w := by kernel_rfl
theorem mUnw (p : Addr) (w : World) : (Go.method 265 86 (.pointer (some p)) "Unwrap").run Tryd.prog w = .ok (115, .pointer (some p)) w := by kernel_rfl
theorem noIsE (v : Value) (xT : TypeId) (w : World) : (Instr.typeAssert (.iface 86 v) xT 92 true).run Tryd.prog w = .ok (.tuple #[.nilIface, .bool false]) w := run_typeAssert_lacksB Tryd.underlying92 (by kernel_rfl) (by kernel_rfl) v xT w
theorem unE (v : Value) (xT : TypeId) (w : World) : (Instr.typeAssert (.iface 86 v) xT 95 true).run Tryd.prog w = .ok (.tuple #[.iface 86 v, .bool true]) w := run_typeAssert_hasB Tryd.underlying95 (by kernel_rfl) v xT w
theorem eqES (v y : Value) (w : World) : (binOp .eql 51 (.iface 86 v) (.iface 126 y)).run Tryd.prog w = .ok (.bool false) w :=
  run_eql_iface_types _ _ v y Tryd.underlying51 (by decide) w
theorem infoOf (T : TypeId) (h : (Tryd.prog.info? T).map (·.comparable) = some true) : ∃ i, Tryd.prog.info? T = some i ∧ i.comparable = true := by
  cases hi : Tryd.prog.info? T with
  | none => rw [hi] at h; cases h
  | some i => rw [hi] at h; exact ⟨i, rfl, by simpa using h⟩
theorem eqSS (p : Addr) (w : World) : (binOp .eql 51 (.iface 126 (.pointer (some p))) (.iface 126 (.pointer (some p)))).run Tryd.prog w = .ok (.bool true) w := by
  obtain ⟨i, hi, hc⟩ := infoOf 126 (by kernel_rfl)
  obtain ⟨j, hj, _⟩ := infoOf 128 (by kernel_rfl)
  first
    | exact run_eql_iface_ptr_same w p Tryd.underlying51 Tryd.underlying126 hi hc hj
    | exact run_eql_iface_ptr_same w p Tryd.underlying51 Tryd.underlying126 hi hc
theorem unw_any (N : Nat) (u : Value) (w : World) (h : w.cell? ⟨N, 2, none⟩ = some u) : Calls Tryd.prog 115 #[.pointer (some ⟨N, 0, none⟩)] w fun r w' => r = .returned u ∧ w' = w := by
  go_enter Tryd.func115, Tryd.ntmps115
  go_wp2_with fail
  go_ret
  exact ⟨rfl, rfl⟩
set_option maxRecDepth 20000 in
set_option maxHeartbeats 4000000 in
theorem is_num (N : Nat) (p : Addr) (w : World) (h : w.cell? ⟨N, 2, none⟩ = some (.iface 126 (.pointer (some p)))) :
    Calls Tryd.prog 54 #[.iface 86 (.pointer (some ⟨N, 0, none⟩)), .iface 126 (.pointer (some p)), .bool true] w fun r w' => r = .returned (.bool true) ∧ w' = w := by
  have HC := Lib.hid h
  clear h
  go_enter Tryd.func54, Tryd.ntmps54
  go_wp2_with fail
  go_loopg [0] 1 (fun k v wr => ((k = 1 ∧ v = .iface 86 (.pointer (some ⟨N, 0, none⟩))) ∨ (k = 0 ∧ v = .iface 126 (.pointer (some p)))) ∧ wr = w)
  case atStart => exact ⟨.inl ⟨rfl, rfl⟩, rfl⟩
  case round =>
    obtain ⟨hor, rfl⟩ := hrel
    rcases hor with ⟨hk, rfl⟩ | ⟨hk, rfl⟩
    · have HK := Lib.hid hk
      have f1 := noIsE
      have f2 := unE
      have m2 := mUnw
      have f3 := eqES
      clear hk
      go_wp2_with fail
      refine (unw_any N _ _ HC.out).mono ?_
      rintro r w1 ⟨rfl, rfl⟩
      go_wp2_with fail
      go_roundg 0
      case measure => have := HK.out; omega
      case rel => exact ⟨.inr ⟨rfl, rfl⟩, rfl⟩
    · have f1 := eqSS
      go_wp2_with fail
      go_ret
      exact ⟨rfl, rfl⟩
set_option maxRecDepth 20000 in
set_option maxHeartbeats 4000000 in
theorem Is_num (N : Nat) (p : Addr) (w : World) (h : w.cell? ⟨N, 2, none⟩ = some (.iface 126 (.pointer (some p)))) :
    Calls Tryd.prog 33 #[.iface 86 (.pointer (some ⟨N, 0, none⟩)), .iface 126 (.pointer (some p))] w fun r w' => r = .returned (.bool true) ∧ w' = w := by
  have H := Lib.hid (is_num N p w h)
  have h1 := xTypeOf
  have h2 := xComp
  have h3 := typeOfS
  have m1 := mComp
  have f1 := compS
  clear h
  go_enter Tryd.func33, Tryd.ntmps33
  go_wp2_with fail
  refine H.out.mono ?_
  rintro r w1 ⟨rfl, rfl⟩
  go_wp2_with fail
  go_ret
  exact ⟨rfl, rfl⟩
end Go.Proofs.YtikjnfghlohjkaaDoor
