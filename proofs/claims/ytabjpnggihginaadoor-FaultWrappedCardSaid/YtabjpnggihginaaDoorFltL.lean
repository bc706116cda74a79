/- errors.Is over the chains of package fault; (*fault.Error).Is; fault.Is. -/
import Derived.Test.YtabjpnggihginaaDoorFltK
namespace Go
section
variable {P : Program} (w : World)
theorem run_equalIn_iface_int (d : Nat) {ti tn : TypeId} {ms : Array (String × TypeId)} {i : TypeInfo} {k : IntKind} (a b : Int)
    (hi : P.underlying ti = some (.interface ms)) (hn : P.underlying tn = some (.int k)) (hinfo : P.info? tn = some i) (hcomp : i.comparable = true) :
    (Op.equalIn (d + 2) ti (.iface tn (.int k a)) (.iface tn (.int k b))).run P w = .ok (a == b) w := by
  simp [Op.equalIn, run_underlying hi, run_underlying hn, typeInfo, hinfo, hcomp]
/-- '==' between two interface values of one integer type -/
theorem run_eql_iface_int {ti tn : TypeId} {ms : Array (String × TypeId)} {i : TypeInfo} {k : IntKind} (a b : Int)
    (hi : P.underlying ti = some (.interface ms)) (hn : P.underlying tn = some (.int k)) (hinfo : P.info? tn = some i) (hcomp : i.comparable = true) :
    (binOp .eql ti (.iface tn (.int k a)) (.iface tn (.int k b))).run P w = .ok (.bool (a == b)) w := by
  simp only [binOp]
  simp [Op.equal, Op.maxDepth, run_equalIn_iface_int w 9998 a b hi hn hinfo hcomp]
end
end Go
namespace Go.Proofs.YtabjpnggihginaaDoor
open Go.RowKit Go.Extern.Stop Go.Stop Go.Extern Go.Shelf

theorem infoErrno : ∃ i, Tryd.prog.info? 23 = some i ∧ i.comparable = true := by
  have h : (Tryd.prog.info? 23).map (·.comparable) = some true := by kernel_rfl
  cases hi : Tryd.prog.info? 23 with
  | none => rw [hi] at h; cases h
  | some i => rw [hi] at h; exact ⟨i, rfl, by simpa using h⟩
theorem eqN (a b : Int) (w : World) : (binOp .eql 27 (.iface 23 (.int .i64 a)) (.iface 23 (.int .i64 b))).run Tryd.prog w = .ok (.bool (a == b)) w := by
  obtain ⟨i, hi, hc⟩ := infoErrno
  exact run_eql_iface_int w a b Tryd.underlying27 Tryd.underlying23 hi hc
theorem hasIsP (v : Value) (xT : TypeId) (w : World) : (Instr.typeAssert (.iface 55 v) xT 99 true).run Tryd.prog w = .ok (.tuple #[.iface 55 v, .bool true]) w := run_typeAssert_hasB Tryd.underlying99 (by kernel_rfl) v xT w
theorem noIsN (v : Value) (xT : TypeId) (w : World) : (Instr.typeAssert (.iface 23 v) xT 99 true).run Tryd.prog w = .ok (.tuple #[.nilIface, .bool false]) w := run_typeAssert_lacksB Tryd.underlying99 (by kernel_rfl) (by kernel_rfl) v xT w
theorem noIsO (v : Value) (xT : TypeId) (w : World) : (Instr.typeAssert (.iface 44 v) xT 99 true).run Tryd.prog w = .ok (.tuple #[.nilIface, .bool false]) w := run_typeAssert_lacksB Tryd.underlying99 (by kernel_rfl) (by kernel_rfl) v xT w

theorem eqPN (v : Value) (b : Int) (w : World) : (binOp .eql 27 (.iface 55 v) (.iface 23 (.int .i64 b))).run Tryd.prog w = .ok (.bool false) w :=
  run_eql_iface_types _ _ v (.int .i64 b) Tryd.underlying27 (by decide) w
theorem eqON (v : Value) (b : Int) (w : World) : (binOp .eql 27 (.iface 44 v) (.iface 23 (.int .i64 b))).run Tryd.prog w = .ok (.bool false) w :=
  run_eql_iface_types _ _ v (.int .i64 b) Tryd.underlying27 (by decide) w
theorem clsN (n : Int) (xT : TypeId) (w : World) : (Instr.typeAssert (.iface 23 (.int .i64 n)) xT 37 true).run Tryd.prog w = .ok (.tuple #[.int .u8 0, .bool false]) w := by kernel_rfl
theorem clsC (c : Int) (xT : TypeId) (w : World) : (Instr.typeAssert (.iface 37 (.int .u8 c)) xT 37 true).run Tryd.prog w = .ok (.tuple #[.int .u8 c, .bool true]) w := by kernel_rfl
set_option maxRecDepth 20000 in
set_option maxHeartbeats 1000000 in
theorem isM_int (p : Addr) (e : Int) (w : World) :
    Calls Tryd.prog 32 #[.pointer (some p), .iface 23 (.int .i64 e)] w fun r w' => r = .returned (.bool false) ∧ w' = w := by
  have f1 := clsN
  go_enter Tryd.func32, Tryd.ntmps32
  go_wp2_with fail
  go_ret
  exact ⟨rfl, rfl⟩
set_option maxRecDepth 20000 in
set_option maxHeartbeats 4000000 in
theorem is_int (l : List Wr) (n e : Int) (v : Value) (w : World) (hc : Chn w (.iface 23 (.int .i64 n)) l v) :
    Calls Tryd.prog 40 #[v, .iface 23 (.int .i64 e), .bool true] w fun r w' => r = .returned (.bool (n == e)) ∧ w' = w := by
  have H := Lib.hid hc
  clear hc
  go_enter Tryd.func40, Tryd.ntmps40
  go_wp2_with fail
  go_loopg [0] l.length (fun k v wr => ∃ l', l'.length = k ∧ Chn w (.iface 23 (.int .i64 n)) l' v ∧ wr = w)
  case atStart => exact ⟨l, rfl, H.out, rfl⟩
  case round =>
    obtain ⟨l', hl, hch, rfl⟩ := hrel
    cases l' with
    | nil =>
      obtain rfl := hch
      have f1 := eqN
      have f2 := noIsN
      have f3 := noUnN
      have f4 := noUsN
      cases hb : (n == e)
      all_goals
        go_wp2_with fail
        go_ret
        exact ⟨by rw [hb]; rfl, rfl⟩
    | cons x l' =>
      obtain ⟨k, u, rfl, hk, hr⟩ := hch
      obtain ⟨t, y, rfl⟩ := hr.iface
      have HK := Lib.hid hk
      have HR := Lib.hid hr
      have HL := Lib.hid hl
      clear hk hr hl
      have f1 := hasIsP
      have f2 := unP
      have m1 := mIsP
      have m2 := mUnw
      have f3 := eqPN
      go_wp2_with fail
      refine (isM_int _ _ _).mono ?_
      rintro r w1 ⟨rfl, rfl⟩
      go_wp2_with fail
      refine (unwrap_any k x.op x.nm x.pl _ _ HK.out).mono ?_
      rintro r w1 ⟨rfl, rfl⟩
      go_wp2_with fail
      go_roundg l'.length
      case measure => have := HL.out; simp at this; omega
      case rel => exact ⟨l', rfl, HR.out, rfl⟩

theorem compN' (w : World) : (ReflectliteType.method (fun t => do Rtype.noPackHeld "Comparable" t; (fun a => Value.bool a.comparable) <$> typeInfo t) #[.agg #[hd 23]]).run Tryd.prog w = .ok (.bool true) w := by kernel_rfl
set_option maxRecDepth 20000 in
set_option maxHeartbeats 4000000 in
theorem Is_int (l : List Wr) (n e : Int) (v : Value) (w : World) (hc : Chn w (.iface 23 (.int .i64 n)) l v) :
    Calls Tryd.prog 29 #[v, .iface 23 (.int .i64 e)] w fun r w' => r = .returned (.bool (n == e)) ∧ w' = w := by
  obtain ⟨t, y, rfl⟩ := hc.iface
  have H := Lib.hid (is_int l n e _ w hc)
  have h1 := xTypeOf
  have h2 := xComp
  have h3 := typeOfN
  have m1 := mComp
  have f1 := compN'
  clear hc
  go_enter Tryd.func29, Tryd.ntmps29
  go_wp2_with fail
  refine H.out.mono ?_
  rintro r w1 ⟨rfl, rfl⟩
  go_wp2_with fail
  go_ret
  exact ⟨rfl, rfl⟩
theorem eqNilN (e : Int) (w : World) : (binOp .eql 27 .nilIface (.iface 23 (.int .i64 e))).run Tryd.prog w = .ok (.bool false) w := by kernel_rfl
set_option maxRecDepth 20000 in
set_option maxHeartbeats 4000000 in
theorem Is_nil (e : Int) (w : World) :
    Calls Tryd.prog 29 #[.nilIface, .iface 23 (.int .i64 e)] w fun r w' => r = .returned (.bool false) ∧ w' = w := by
  have f1 := eqNilN
  go_enter Tryd.func29, Tryd.ntmps29
  go_wp2_with fail
  go_ret
  exact ⟨rfl, rfl⟩
set_option maxRecDepth 20000 in
set_option maxHeartbeats 4000000 in
theorem isF_int (l : List Wr) (n e : Int) (v : Value) (w : World) (hc : Chn w (.iface 23 (.int .i64 n)) l v) :
    Calls Tryd.prog 20 #[v, .int .i64 e] w fun r w' => r = .returned (.bool (n == e)) ∧ w' = w := by
  obtain ⟨t, y, rfl⟩ := hc.iface
  have H := Lib.hid (Is_int l n e _ w hc)
  clear hc
  go_enter Tryd.func20, Tryd.ntmps20
  go_wp2_with fail
  refine H.out.mono ?_
  rintro r w1 ⟨rfl, rfl⟩
  go_wp2_with fail
  go_ret
  exact ⟨rfl, rfl⟩
set_option maxRecDepth 20000 in
set_option maxHeartbeats 4000000 in
theorem isF_nil (e : Int) (w : World) :
    Calls Tryd.prog 20 #[.nilIface, .int .i64 e] w fun r w' => r = .returned (.bool false) ∧ w' = w := by
  go_enter Tryd.func20, Tryd.ntmps20
  go_wp2_with fail
  refine (Is_nil _ _).mono ?_
  rintro r w1 ⟨rfl, rfl⟩
  go_wp2_with fail
  go_ret
  exact ⟨rfl, rfl⟩
end Go.Proofs.YtabjpnggihginaaDoor
