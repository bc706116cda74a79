/- (*fault.Error).Is at a Class; what FaultWrapped asks: asked, inner. -/
import Derived.Test.YtabjpnggihginaaDoorFltL
namespace Go.Proofs.YtabjpnggihginaaDoor
open Go.RowKit Go.Extern.Stop Go.Stop Go.Extern Go.Shelf

set_option maxRecDepth 20000 in
set_option maxHeartbeats 1000000 in
theorem isM_cls (k : Nat) (x : Wr) (l : List Wr) (n : Int) (u : Value) (c : Nat) (hc4 : c < 256) (w : World) (hk : w.heap[k]? = some (.cells #[.string x.op, .string x.nm, .int .i64 x.pl, u] 57)) (hc : Chn w (.iface 23 (.int .i64 n)) l u) (he : ErrT w) :
    Calls Tryd.prog 32 #[.pointer (some ⟨k, 0, none⟩), .iface 37 (.int .u8 c)] w fun r w' => r = .returned (.bool (decide (ofC n = c))) ∧ Below w.heap.size w w' := by
  have k3 : w.cell? ⟨k, 3, none⟩ = some u := by rw [cell_of_row _ _ _ _ _ _ hk]; rfl
  obtain ⟨t, y, rfl⟩ := hc.iface
  have HC := Lib.hid (code_int l n _ w hc he)
  have HO := Lib.hid (fun w => of_any n w)
  obtain ⟨q, hq⟩ : ∃ q, ofC n = q := ⟨_, rfl⟩
  rw [hq] at HO ⊢
  have f1 := clsC
  clear hc he hk hq
  by_cases h0 : c = 0
  · subst h0
    go_enter Tryd.func32, Tryd.ntmps32
    go_wp2_with fail
    refine HC.out.mono ?_
    rintro e w1 ⟨rfl, hb⟩
    have HB := Lib.hid hb
    clear HC hb
    go_wp2_with fail
    refine (HO.out _).mono ?_
    rintro e w2 ⟨rfl, rfl⟩
    go_wp2_with fail
    go_ret
    refine ⟨?_, HB.out⟩
    by_cases h : q = 0
    · subst h; rfl
    · have h1 : ((q : Int) == 0) = false := by rw [beq_eq_false_iff_ne]; omega
      simp [h, h1]
  · have d0 : ((c : Int) == 0) = false := by rw [beq_eq_false_iff_ne]; omega
    go_enter Tryd.func32, Tryd.ntmps32
    go_wp2_with fail
    refine HC.out.mono ?_
    rintro e w1 ⟨rfl, hb⟩
    have HB := Lib.hid hb
    clear HC hb
    go_wp2_with fail
    refine (HO.out _).mono ?_
    rintro e w2 ⟨rfl, rfl⟩
    go_wp2_with fail
    go_ret
    refine ⟨?_, HB.out⟩
    by_cases h : q = c
    · subst h; simp
    · have h1 : ((q : Int) == (c : Int)) = false := by rw [beq_eq_false_iff_ne]; omega
      simp [h, h1]

theorem ptrE (v : Value) (xT : TypeId) (w : World) : (Instr.typeAssert (.iface 55 v) xT 55 true).run Tryd.prog w = .ok (.tuple #[v, .bool true]) w := by kernel_rfl

set_option maxRecDepth 20000 in
set_option maxHeartbeats 1000000 in
theorem inner_any (k : Nat) (x : Wr) (u : Value) (w : World) (hk : w.heap[k]? = some (.cells #[.string x.op, .string x.nm, .int .i64 x.pl, u] 57)) :
    Calls Tryd.prog 24 #[.iface 55 (.pointer (some ⟨k, 0, none⟩))] w fun r w' => r = .returned u ∧ w' = w := by
  have H := Lib.hid (unwrap_any k x.op x.nm x.pl u w hk)
  have f1 := ptrE
  clear hk
  go_enter Tryd.func24, Tryd.ntmps24
  go_wp2_with fail
  refine H.out.mono ?_
  rintro r w1 ⟨rfl, rfl⟩
  go_wp2_with fail
  go_ret
  exact ⟨rfl, rfl⟩

set_option maxRecDepth 20000 in
set_option maxHeartbeats 1000000 in
theorem asked_int (p : Addr) (e : Int) (w : World) :
    Calls Tryd.prog 25 #[.iface 55 (.pointer (some p)), .iface 23 (.int .i64 e)] w fun r w' => r = .returned (.bool false) ∧ w' = w := by
  have f1 := ptrE
  go_enter Tryd.func25, Tryd.ntmps25
  go_wp2_with fail
  refine (isM_int _ _ _).mono ?_
  rintro r w1 ⟨rfl, rfl⟩
  go_wp2_with fail
  go_ret
  exact ⟨rfl, rfl⟩

set_option maxRecDepth 20000 in
set_option maxHeartbeats 1000000 in
theorem asked_cls (k : Nat) (x : Wr) (l : List Wr) (n : Int) (u : Value) (c : Nat) (hc4 : c < 256) (w : World) (hk : w.heap[k]? = some (.cells #[.string x.op, .string x.nm, .int .i64 x.pl, u] 57)) (hc : Chn w (.iface 23 (.int .i64 n)) l u) (he : ErrT w) :
    Calls Tryd.prog 25 #[.iface 55 (.pointer (some ⟨k, 0, none⟩)), .iface 37 (.int .u8 c)] w fun r w' => r = .returned (.bool (decide (ofC n = c))) ∧ Below w.heap.size w w' := by
  have H := Lib.hid (isM_cls k x l n u c hc4 w hk hc he)
  have f1 := ptrE
  clear hk hc he
  go_enter Tryd.func25, Tryd.ntmps25
  go_wp2_with fail
  refine H.out.mono ?_
  rintro r w1 ⟨rfl, hb⟩
  have HB := Lib.hid hb
  clear hb
  go_wp2_with fail
  go_ret
  exact ⟨rfl, HB.out⟩
end Go.Proofs.YtabjpnggihginaaDoor
