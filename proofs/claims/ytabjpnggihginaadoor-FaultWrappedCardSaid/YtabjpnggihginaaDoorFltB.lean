/- The chains of package fault in memory; errors.as and errors.As over them. -/
import Derived.Test.YtabjpnggihginaaDoorFltX
import Derived.Test.YtabjpnggihginaaDoorRangeGhost
namespace Go.Proofs.YtabjpnggihginaaDoor
open Go.RowKit Go.Extern.Stop Go.Stop Go.Extern

/-- with what an error was wrapped -/
structure Wr where
  op : ByteArray
  nm : ByteArray
  pl : Int

/-- an error's chain in memory: the outermost one first; b: the innermost value -/
def Chn (w : World) (b : Value) : List Wr → Value → Prop
  | [], v => v = b
  | x :: l, v => ∃ k u, v = .iface 55 (.pointer (some ⟨k, 0, none⟩)) ∧ w.heap[k]? = some (.cells #[.string x.op, .string x.nm, .int .i64 x.pl, u] 57) ∧ Chn w b l u

theorem Chn.keep {w w' : World} {b : Value} : ∀ {l : List Wr} {v : Value}, Chn w b l v → (∀ k, k < w.heap.size → w'.heap[k]? = w.heap[k]?) → Chn w' b l v
  | [], _, h, _ => h
  | _ :: _, _, ⟨k, u, e, hk, hl⟩, hs => ⟨k, u, e, (hs k (Array.getElem?_eq_some_iff.1 hk).1).trans hk, hl.keep hs⟩

theorem Chn.iface {w : World} {T : TypeId} {x : Value} : ∀ {l : List Wr} {v : Value}, Chn w (.iface T x) l v → ∃ t y, v = .iface t y
  | [], _, h => ⟨_, _, h⟩
  | _ :: _, _, ⟨_, _, e, _⟩ => ⟨_, _, e⟩

theorem unwrap_any (k : Nat) (o n : ByteArray) (a : Int) (u : Value) (w : World) (h : w.heap[k]? = some (.cells #[.string o, .string n, .int .i64 a, u] 57)) :
    Calls Tryd.prog 31 #[.pointer (some ⟨k, 0, none⟩)] w fun e w' => e = .returned u ∧ w' = w := by
  have c3 : w.cell? ⟨k, 3, none⟩ = some u := by rw [cell_of_row _ _ _ _ _ _ h]; rfl
  go_enter Tryd.func31, Tryd.ntmps31
  go_wp2_with fail
  go_ret
  exact ⟨rfl, rfl⟩

theorem noAsP (v : Value) (xT : TypeId) (w : World) : (Instr.typeAssert (.iface 55 v) xT 92 true).run Tryd.prog w = .ok (.tuple #[.nilIface, .bool false]) w := run_typeAssert_lacksB Tryd.underlying92 (by kernel_rfl) (by kernel_rfl) v xT w
theorem noAsN (v : Value) (xT : TypeId) (w : World) : (Instr.typeAssert (.iface 23 v) xT 92 true).run Tryd.prog w = .ok (.tuple #[.nilIface, .bool false]) w := run_typeAssert_lacksB Tryd.underlying92 (by kernel_rfl) (by kernel_rfl) v xT w
theorem noAsO (v : Value) (xT : TypeId) (w : World) : (Instr.typeAssert (.iface 44 v) xT 92 true).run Tryd.prog w = .ok (.tuple #[.nilIface, .bool false]) w := run_typeAssert_lacksB Tryd.underlying92 (by kernel_rfl) (by kernel_rfl) v xT w
theorem unP (v : Value) (xT : TypeId) (w : World) : (Instr.typeAssert (.iface 55 v) xT 95 true).run Tryd.prog w = .ok (.tuple #[.iface 55 v, .bool true]) w := run_typeAssert_hasB Tryd.underlying95 (by kernel_rfl) v xT w
theorem noUnN (v : Value) (xT : TypeId) (w : World) : (Instr.typeAssert (.iface 23 v) xT 95 true).run Tryd.prog w = .ok (.tuple #[.nilIface, .bool false]) w := run_typeAssert_lacksB Tryd.underlying95 (by kernel_rfl) (by kernel_rfl) v xT w
theorem noUnO (v : Value) (xT : TypeId) (w : World) : (Instr.typeAssert (.iface 44 v) xT 95 true).run Tryd.prog w = .ok (.tuple #[.nilIface, .bool false]) w := run_typeAssert_lacksB Tryd.underlying95 (by kernel_rfl) (by kernel_rfl) v xT w
theorem noUsN (v : Value) (xT : TypeId) (w : World) : (Instr.typeAssert (.iface 23 v) xT 96 true).run Tryd.prog w = .ok (.tuple #[.nilIface, .bool false]) w := run_typeAssert_lacksB Tryd.underlying96 (by kernel_rfl) (by kernel_rfl) v xT w
theorem noUsO (v : Value) (xT : TypeId) (w : World) : (Instr.typeAssert (.iface 44 v) xT 96 true).run Tryd.prog w = .ok (.tuple #[.nilIface, .bool false]) w := run_typeAssert_lacksB Tryd.underlying96 (by kernel_rfl) (by kernel_rfl) v xT w

set_option maxRecDepth 20000 in
set_option maxHeartbeats 4000000 in
theorem as_int (l : List Wr) (n : Int) (v : Value) (bv tb : Nat) (old : Int) (w : World) (hc : Chn w (.iface 23 (.int .i64 n)) l v) (hb : w.heap[bv]? = some (.cells #[.pointer (some ⟨tb, 0, none⟩)] 63))
    (ht : w.heap[tb]? = some (.cells #[.int .i64 old] 23)) :
    Calls Tryd.prog 38 #[v, .iface 63 (.pointer (some ⟨tb, 0, none⟩)), rv 63 ⟨bv, 0, none⟩ 150, rt 23] w
      fun e w' => e = .returned (.bool true) ∧ w' = ((w.alloc (.cells #[hd 63, .pointer (some ⟨bv, 0, none⟩), .int .u64 150] 74)).alloc (.cells #[.int .i64 n] 23)).setCell ⟨tb, 0, none⟩ (.int .i64 n) := by
  obtain ⟨W0, eW⟩ : ∃ W0, w.alloc (.cells #[hd 63, .pointer (some ⟨bv, 0, none⟩), .int .u64 150] 74) = W0 := ⟨_, rfl⟩
  have hc0 : Chn W0 (.iface 23 (.int .i64 n)) l v := hc.keep (fun k hk => by rw [← eW]; exact Below.heap_alloc _ _ _ hk)
  have hN : W0.heap[w.heap.size]? = some (.cells #[hd 63, .pointer (some ⟨bv, 0, none⟩), .int .u64 150] 74) := by rw [← eW]; exact World.alloc_heap_new _ _
  have hb0 : W0.heap[bv]? = some (.cells #[.pointer (some ⟨tb, 0, none⟩)] 63) := by rw [← eW]; exact (Below.heap_alloc _ _ _ (Array.getElem?_eq_some_iff.1 hb).1).trans hb
  have ht0 : W0.heap[tb]? = some (.cells #[.int .i64 old] 23) := by rw [← eW]; exact (Below.heap_alloc _ _ _ (Array.getElem?_eq_some_iff.1 ht).1).trans ht
  have hx : w.alloc (.cells #[.pointer (some ⟨Tryd.prog.globals.size, 63, none⟩), .pointer (some ⟨bv, 0, none⟩), .int .u64 150] 74) = W0 := eW
  go_enter Tryd.func38, Tryd.ntmps38
  have h1 := xTypeOf
  have h2 := xAsg
  have h3 := xVElem
  have h4 := xValueOf
  have h5 := xSet
  have m1 := mAsg
  have m2 := mUnw
  have H := Lib.hid hc0
  clear hc0 hc hb ht
  go_wp2_with fail
  go_loopg [0] l.length (fun k v wr => ∃ l', l'.length = k ∧ Chn W0 (.iface 23 (.int .i64 n)) l' v ∧ wr = W0)
  case atStart => exact ⟨l, rfl, H.out, rfl⟩
  case round =>
    obtain ⟨l', hl, hch, rfl⟩ := hrel
    cases l' with
    | nil =>
      obtain rfl := hch
      have f1 := typeOfN
      have f2 := asgNN
      have c0 : wr.cell? ⟨w.heap.size, 0, none⟩ = some (hd 63) := by rw [cell_of_row _ _ _ _ _ _ hN]; rfl
      have c1 : wr.cell? ⟨w.heap.size, 1, none⟩ = some (.pointer (some ⟨bv, 0, none⟩)) := by rw [cell_of_row _ _ _ _ _ _ hN]; rfl
      have c2 : wr.cell? ⟨w.heap.size, 2, none⟩ = some (.int .u64 150) := by rw [cell_of_row _ _ _ _ _ _ hN]; rfl
      have f3 := elemVI ⟨bv, 0, none⟩ ⟨tb, 0, none⟩ wr (by rw [cell_of_row _ _ _ _ _ _ hb0]; rfl)
      have f4 := valueOfN n wr
      have r2 : (wr.alloc (.cells #[.int .i64 n] 23)).heap[tb]? = some (.cells #[.int .i64 old] 23) := (Below.heap_alloc _ _ _ (Array.getElem?_eq_some_iff.1 ht0).1).trans ht0
      have f5 := setN ⟨tb, 0, none⟩ ⟨wr.heap.size, 0, none⟩ n (.int .i64 old) (wr.alloc (.cells #[.int .i64 n] 23)) (by simp) (by rw [cell_of_row _ _ _ _ _ _ r2]; rfl) (frozen_of_row _ _ _ _ _ r2)
      have EW := Lib.hid eW
      clear eW hx hN hb0 ht0 r2
      go_wp2_with fail
      go_ret
      exact ⟨rfl, by rw [EW.out]⟩
    | cons x l' =>
      obtain ⟨k, u, rfl, hk, hr⟩ := hch
      obtain ⟨t, y, rfl⟩ := hr.iface
      have HK := Lib.hid hk
      have HR := Lib.hid hr
      have HL := Lib.hid hl
      clear hk hr hl
      have f1 := typeOfP
      have f2 := asgPN
      have f3 := noAsP
      have f4 := unP
      have EW := Lib.hid eW
      clear eW hx hN hb0 ht0
      go_wp2_with fail
      refine (unwrap_any k x.op x.nm x.pl _ wr HK.out).mono ?_
      rintro e w1 ⟨rfl, rfl⟩
      go_wp2_with fail
      go_roundg l'.length
      case measure => have := HL.out; simp at this; omega
      case rel => exact ⟨l', rfl, HR.out, rfl⟩

set_option maxRecDepth 20000 in
set_option maxHeartbeats 4000000 in
theorem as_own (l : List Wr) (v : Value) (bv tb : Nat) (old : Int) (w : World) (hc : Chn w (.iface 44 (.agg #[])) l v) (hb : w.heap[bv]? = some (.cells #[.pointer (some ⟨tb, 0, none⟩)] 63))
    (ht : w.heap[tb]? = some (.cells #[.int .i64 old] 23)) :
    Calls Tryd.prog 38 #[v, .iface 63 (.pointer (some ⟨tb, 0, none⟩)), rv 63 ⟨bv, 0, none⟩ 150, rt 23] w
      fun e w' => e = .returned (.bool false) ∧ w' = w.alloc (.cells #[hd 63, .pointer (some ⟨bv, 0, none⟩), .int .u64 150] 74) := by
  obtain ⟨W0, eW⟩ : ∃ W0, w.alloc (.cells #[hd 63, .pointer (some ⟨bv, 0, none⟩), .int .u64 150] 74) = W0 := ⟨_, rfl⟩
  have hc0 : Chn W0 (.iface 44 (.agg #[])) l v := hc.keep (fun k hk => by rw [← eW]; exact Below.heap_alloc _ _ _ hk)
  have hN : W0.heap[w.heap.size]? = some (.cells #[hd 63, .pointer (some ⟨bv, 0, none⟩), .int .u64 150] 74) := by rw [← eW]; exact World.alloc_heap_new _ _
  have hb0 : W0.heap[bv]? = some (.cells #[.pointer (some ⟨tb, 0, none⟩)] 63) := by rw [← eW]; exact (Below.heap_alloc _ _ _ (Array.getElem?_eq_some_iff.1 hb).1).trans hb
  have ht0 : W0.heap[tb]? = some (.cells #[.int .i64 old] 23) := by rw [← eW]; exact (Below.heap_alloc _ _ _ (Array.getElem?_eq_some_iff.1 ht).1).trans ht
  have hx : w.alloc (.cells #[.pointer (some ⟨Tryd.prog.globals.size, 63, none⟩), .pointer (some ⟨bv, 0, none⟩), .int .u64 150] 74) = W0 := eW
  go_enter Tryd.func38, Tryd.ntmps38
  have h1 := xTypeOf
  have h2 := xAsg
  have h3 := xVElem
  have h4 := xValueOf
  have h5 := xSet
  have m1 := mAsg
  have m2 := mUnw
  have H := Lib.hid hc0
  clear hc0 hc hb ht
  go_wp2_with fail
  go_loopg [0] l.length (fun k v wr => ∃ l', l'.length = k ∧ Chn W0 (.iface 44 (.agg #[])) l' v ∧ wr = W0)
  case atStart => exact ⟨l, rfl, H.out, rfl⟩
  case round =>
    obtain ⟨l', hl, hch, rfl⟩ := hrel
    cases l' with
    | nil =>
      obtain rfl := hch
      have f1 := typeOfO
      have f2 := asgON
      have f3 := noAsO
      have f4 := noUnO
      have f5 := noUsO
      have EW := Lib.hid eW
      clear eW hx hN hb0 ht0
      go_wp2_with fail
      go_ret
      exact ⟨rfl, by rw [EW.out]⟩
    | cons x l' =>
      obtain ⟨k, u, rfl, hk, hr⟩ := hch
      obtain ⟨t, y, rfl⟩ := hr.iface
      have HK := Lib.hid hk
      have HR := Lib.hid hr
      have HL := Lib.hid hl
      clear hk hr hl
      have f1 := typeOfP
      have f2 := asgPN
      have f3 := noAsP
      have f4 := unP
      have EW := Lib.hid eW
      clear eW hx hN hb0 ht0
      go_wp2_with fail
      refine (unwrap_any k x.op x.nm x.pl _ wr HK.out).mono ?_
      rintro e w1 ⟨rfl, rfl⟩
      go_wp2_with fail
      go_roundg l'.length
      case measure => have := HL.out; simp at this; omega
      case rel => exact ⟨l', rfl, HR.out, rfl⟩

set_option maxRecDepth 20000 in
set_option maxHeartbeats 4000000 in
theorem as_ptr (p : Addr) (bv tb : Nat) (old : Value) (w : World) (hb : w.heap[bv]? = some (.cells #[.pointer (some ⟨tb, 0, none⟩)] 70)) (ht : w.heap[tb]? = some (.cells #[old] 55)) :
    Calls Tryd.prog 38 #[.iface 55 (.pointer (some p)), .iface 70 (.pointer (some ⟨tb, 0, none⟩)), rv 70 ⟨bv, 0, none⟩ 150, rt 55] w
      fun e w' => e = .returned (.bool true) ∧ w' = ((w.alloc (.cells #[hd 70, .pointer (some ⟨bv, 0, none⟩), .int .u64 150] 74)).alloc (.cells #[.pointer (some p)] 55)).setCell ⟨tb, 0, none⟩ (.pointer (some p)) := by
  obtain ⟨W0, eW⟩ : ∃ W0, w.alloc (.cells #[hd 70, .pointer (some ⟨bv, 0, none⟩), .int .u64 150] 74) = W0 := ⟨_, rfl⟩
  have hN : W0.heap[w.heap.size]? = some (.cells #[hd 70, .pointer (some ⟨bv, 0, none⟩), .int .u64 150] 74) := by rw [← eW]; exact World.alloc_heap_new _ _
  have hb0 : W0.heap[bv]? = some (.cells #[.pointer (some ⟨tb, 0, none⟩)] 70) := by rw [← eW]; exact (Below.heap_alloc _ _ _ (Array.getElem?_eq_some_iff.1 hb).1).trans hb
  have ht0 : W0.heap[tb]? = some (.cells #[old] 55) := by rw [← eW]; exact (Below.heap_alloc _ _ _ (Array.getElem?_eq_some_iff.1 ht).1).trans ht
  have hx : w.alloc (.cells #[.pointer (some ⟨Tryd.prog.globals.size, 70, none⟩), .pointer (some ⟨bv, 0, none⟩), .int .u64 150] 74) = W0 := eW
  have h1 := xTypeOf
  have h2 := xAsg
  have h3 := xVElem
  have h4 := xValueOf
  have h5 := xSet
  have m1 := mAsg
  have f1 := typeOfP
  have f2 := asgPP
  have c0 : W0.cell? ⟨w.heap.size, 0, none⟩ = some (hd 70) := by rw [cell_of_row _ _ _ _ _ _ hN]; rfl
  have c1 : W0.cell? ⟨w.heap.size, 1, none⟩ = some (.pointer (some ⟨bv, 0, none⟩)) := by rw [cell_of_row _ _ _ _ _ _ hN]; rfl
  have c2 : W0.cell? ⟨w.heap.size, 2, none⟩ = some (.int .u64 150) := by rw [cell_of_row _ _ _ _ _ _ hN]; rfl
  have f3 := elemVE ⟨bv, 0, none⟩ ⟨tb, 0, none⟩ W0 (by rw [cell_of_row _ _ _ _ _ _ hb0]; rfl)
  have f4 := valueOfP p W0
  have r2 : (W0.alloc (.cells #[.pointer (some p)] 55)).heap[tb]? = some (.cells #[old] 55) := (Below.heap_alloc _ _ _ (Array.getElem?_eq_some_iff.1 ht0).1).trans ht0
  have f5 := setP ⟨tb, 0, none⟩ ⟨W0.heap.size, 0, none⟩ p old (W0.alloc (.cells #[.pointer (some p)] 55)) (by simp) (by rw [cell_of_row _ _ _ _ _ _ r2]; rfl) (frozen_of_row _ _ _ _ _ r2)
  have EW := Lib.hid eW
  clear hN hb0 ht0 r2 hb ht
  go_enter Tryd.func38, Tryd.ntmps38
  go_wp2_with fail
  clear eW hx
  refine wp_loop_rounds 1 ?_
  rw [rounds_succ]
  go_wp2_with fail
  go_ret
  exact ⟨rfl, by rw [EW.out]⟩

set_option maxRecDepth 20000 in
set_option maxHeartbeats 4000000 in
theorem as_ptrN (n : Int) (bv tb : Nat) (w : World) :
    Calls Tryd.prog 38 #[.iface 23 (.int .i64 n), .iface 70 (.pointer (some ⟨tb, 0, none⟩)), rv 70 ⟨bv, 0, none⟩ 150, rt 55] w
      fun e w' => e = .returned (.bool false) ∧ w' = w.alloc (.cells #[hd 70, .pointer (some ⟨bv, 0, none⟩), .int .u64 150] 74) := by
  have h1 := xTypeOf
  have h2 := xAsg
  have m1 := mAsg
  have f1 := typeOfN
  have f2 := asgNP
  have f3 := noAsN
  have f4 := noUnN
  have f5 := noUsN
  go_enter Tryd.func38, Tryd.ntmps38
  go_wp2_with fail
  refine wp_loop_rounds 1 ?_
  rw [rounds_succ]
  go_wp2_with fail
  go_ret
  exact ⟨rfl, rfl⟩

set_option maxRecDepth 20000 in
set_option maxHeartbeats 4000000 in
theorem as_ptrO (bv tb : Nat) (w : World) :
    Calls Tryd.prog 38 #[.iface 44 (.agg #[]), .iface 70 (.pointer (some ⟨tb, 0, none⟩)), rv 70 ⟨bv, 0, none⟩ 150, rt 55] w
      fun e w' => e = .returned (.bool false) ∧ w' = w.alloc (.cells #[hd 70, .pointer (some ⟨bv, 0, none⟩), .int .u64 150] 74) := by
  have h1 := xTypeOf
  have h2 := xAsg
  have m1 := mAsg
  have f1 := typeOfO
  have f2 := asgOP
  have f3 := noAsO
  have f4 := noUnO
  have f5 := noUsO
  go_enter Tryd.func38, Tryd.ntmps38
  go_wp2_with fail
  refine wp_loop_rounds 1 ?_
  rw [rounds_succ]
  go_wp2_with fail
  go_ret
  exact ⟨rfl, rfl⟩

end Go.Proofs.YtabjpnggihginaaDoor
