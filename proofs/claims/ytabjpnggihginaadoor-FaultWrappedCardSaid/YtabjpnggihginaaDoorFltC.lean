/- errors.As over the chains of package fault; fault.Code. -/
import Derived.Test.YtabjpnggihginaaDoorFltB
namespace Go.Proofs.YtabjpnggihginaaDoor
open Go.RowKit Go.Extern.Stop Go.Stop Go.Extern

/-- the variable errors.errorType, as its initialiser lays it -/
def ErrT (w : World) : Prop := w.cell? ⟨1, 0, none⟩ = some (rt 27)
theorem ErrT.lt {w : World} (h : ErrT w) : 1 < w.heap.size := by
  refine Decidable.byContradiction fun hn => ?_
  have : w.heap[1]? = none := Array.getElem?_eq_none (by omega)
  simp [ErrT, World.cell?, this] at h
theorem ErrT.keep {w w' : World} (h : ErrT w) (hb : Below w.heap.size w w') : ErrT w' := (hb.cell (p := ⟨1, 0, none⟩) h.lt).trans h

theorem alloc_set_row (w : World) (o : Obj) (tb : Nat) (x v : Value) (T : TypeId) (h : w.heap[tb]? = some (.cells #[x] T)) :
    ((w.alloc o).setCell ⟨tb, 0, none⟩ v).heap[tb]? = some (.cells #[v] T) :=
  heap_setCell_same _ tb 0 _ _ v ((Below.heap_alloc _ _ _ (Array.getElem?_eq_some_iff.1 h).1).trans h)

set_option maxRecDepth 20000 in
set_option maxHeartbeats 4000000 in
theorem As_int (l : List Wr) (n : Int) (v : Value) (tb : Nat) (o0 : Int) (w : World) (hc : Chn w (.iface 23 (.int .i64 n)) l v) (he : ErrT w) (ht : w.heap[tb]? = some (.cells #[.int .i64 o0] 23)) :
    Calls Tryd.prog 28 #[v, .iface 63 (.pointer (some ⟨tb, 0, none⟩))] w fun e w' => e = .returned (.bool true) ∧ KeepX (fun k => k = tb) w w' ∧ w'.heap[tb]? = some (.cells #[.int .i64 n] 23) := by
  obtain ⟨t, y, rfl⟩ := hc.iface
  obtain ⟨W0, eW⟩ : ∃ W0, w.alloc (.cells #[.pointer (some ⟨tb, 0, none⟩)] 63) = W0 := ⟨_, rfl⟩
  have z0 : W0.heap.size = w.heap.size + 1 := by rw [← eW]; simp
  have hb0 : Below w.heap.size w W0 := by rw [← eW]; exact (Below.refl _ _).alloc (Nat.le_refl _) _
  have hv0 : W0.heap[w.heap.size]? = some (.cells #[.pointer (some ⟨tb, 0, none⟩)] 63) := by rw [← eW]; exact World.alloc_heap_new _ _
  obtain ⟨W1, eW1⟩ : ∃ W1, W0.alloc (.cells #[hd 63, .pointer (some ⟨w.heap.size, 0, none⟩), .int .u64 150] 74) = W1 := ⟨_, rfl⟩
  have hb1 : Below w.heap.size w W1 := by rw [← eW1]; exact hb0.alloc hb0.size _
  have hv1 : W1.heap[w.heap.size]? = some (.cells #[.pointer (some ⟨tb, 0, none⟩)] 63) := by rw [← eW1]; exact (Below.heap_alloc _ _ _ (by omega)).trans hv0
  have hB1 : W1.heap[W0.heap.size]? = some (.cells #[hd 63, .pointer (some ⟨w.heap.size, 0, none⟩), .int .u64 150] 74) := by rw [← eW1]; exact World.alloc_heap_new _ _
  have ht1 : W1.heap[tb]? = some (.cells #[.int .i64 o0] 23) := (hb1.block _ (Array.getElem?_eq_some_iff.1 ht).1).trans ht
  have g1 : W1.cell? ⟨1, 0, none⟩ = some (rt 27) := he.keep hb1
  have c0 : W1.cell? ⟨W0.heap.size, 0, none⟩ = some (hd 63) := by rw [cell_of_row _ _ _ _ _ _ hB1]; rfl
  have c1 : W1.cell? ⟨W0.heap.size, 1, none⟩ = some (.pointer (some ⟨w.heap.size, 0, none⟩)) := by rw [cell_of_row _ _ _ _ _ _ hB1]; rfl
  have c2 : W1.cell? ⟨W0.heap.size, 2, none⟩ = some (.int .u64 150) := by rw [cell_of_row _ _ _ _ _ _ hB1]; rfl
  have hv : (ReflectliteValue.unpack (.iface 63 (.pointer (some ⟨tb, 0, none⟩)))).run Tryd.prog w = .ok (rv 63 ⟨w.heap.size, 0, none⟩ 150) W0 := by rw [← eW]; exact valueOfI _ _
  have hn := isNilI ⟨w.heap.size, 0, none⟩ ⟨tb, 0, none⟩ W1 (by rw [cell_of_row _ _ _ _ _ _ hv1]; rfl)
  have hw1 : W0.alloc (.cells #[.pointer (some ⟨5, 63, none⟩), .pointer (some ⟨w.heap.size, 0, none⟩), .int .u64 150] 74) = W1 := eW1
  have hAs := Lib.hid (as_int l n _ w.heap.size tb o0 W1 (hc.keep (fun k hk => hb1.block k hk)) hv1 ht1)
  have HB1 := Lib.hid hb1
  have HT1 := Lib.hid ht1
  have HV1 := Lib.hid hv1
  have HT := Lib.hid ht
  have Z0 := Lib.hid z0
  clear eW hb0 hv0 eW1 hb1 hv1 hB1 ht1 ht he z0
  have h1 := xValueOf
  have h2 := xType
  have h3 := xKind
  have h4 := xIsNil
  have h5 := xElem
  have h6 := xImpl
  have m1 := mKind
  have m2 := mElem
  have m3 := mImpl
  have f1 := typeI
  have f2 := kindI
  have f3 := elemI
  have f4 := kindN
  have f5 := implN
  go_enter Tryd.func28, Tryd.ntmps28
  go_wp2_with fail
  refine hAs.out.mono ?_
  rintro e w2 ⟨rfl, rfl⟩
  clear hAs
  go_wp2_with fail
  go_ret
  refine ⟨rfl, ?_, ?_⟩
  · exact KeepX.setCell (E := fun k => k = tb) (p := ⟨tb, 0, none⟩) (KeepX.of_below (((HB1.out.alloc HB1.out.size (.cells #[hd 63, .pointer (some ⟨w.heap.size, 0, none⟩), .int .u64 150] 74)).alloc (by simp; have := HB1.out.size; omega) (.cells #[.int .i64 n] 23)))) rfl _
  · exact alloc_set_row _ _ tb _ _ _ ((Below.heap_alloc _ _ _ (Array.getElem?_eq_some_iff.1 HT1.out).1).trans HT1.out)

set_option maxRecDepth 20000 in
set_option maxHeartbeats 4000000 in
theorem As_own (l : List Wr) (v : Value) (tb : Nat) (o0 : Int) (w : World) (hc : Chn w (.iface 44 (.agg #[])) l v) (he : ErrT w) (ht : w.heap[tb]? = some (.cells #[.int .i64 o0] 23)) :
    Calls Tryd.prog 28 #[v, .iface 63 (.pointer (some ⟨tb, 0, none⟩))] w fun e w' => e = .returned (.bool false) ∧ Below w.heap.size w w' := by
  obtain ⟨t, y, rfl⟩ := hc.iface
  obtain ⟨W0, eW⟩ : ∃ W0, w.alloc (.cells #[.pointer (some ⟨tb, 0, none⟩)] 63) = W0 := ⟨_, rfl⟩
  have z0 : W0.heap.size = w.heap.size + 1 := by rw [← eW]; simp
  have hb0 : Below w.heap.size w W0 := by rw [← eW]; exact (Below.refl _ _).alloc (Nat.le_refl _) _
  have hv0 : W0.heap[w.heap.size]? = some (.cells #[.pointer (some ⟨tb, 0, none⟩)] 63) := by rw [← eW]; exact World.alloc_heap_new _ _
  obtain ⟨W1, eW1⟩ : ∃ W1, W0.alloc (.cells #[hd 63, .pointer (some ⟨w.heap.size, 0, none⟩), .int .u64 150] 74) = W1 := ⟨_, rfl⟩
  have hb1 : Below w.heap.size w W1 := by rw [← eW1]; exact hb0.alloc hb0.size _
  have hv1 : W1.heap[w.heap.size]? = some (.cells #[.pointer (some ⟨tb, 0, none⟩)] 63) := by rw [← eW1]; exact (Below.heap_alloc _ _ _ (by omega)).trans hv0
  have hB1 : W1.heap[W0.heap.size]? = some (.cells #[hd 63, .pointer (some ⟨w.heap.size, 0, none⟩), .int .u64 150] 74) := by rw [← eW1]; exact World.alloc_heap_new _ _
  have ht1 : W1.heap[tb]? = some (.cells #[.int .i64 o0] 23) := (hb1.block _ (Array.getElem?_eq_some_iff.1 ht).1).trans ht
  have g1 : W1.cell? ⟨1, 0, none⟩ = some (rt 27) := he.keep hb1
  have c0 : W1.cell? ⟨W0.heap.size, 0, none⟩ = some (hd 63) := by rw [cell_of_row _ _ _ _ _ _ hB1]; rfl
  have c1 : W1.cell? ⟨W0.heap.size, 1, none⟩ = some (.pointer (some ⟨w.heap.size, 0, none⟩)) := by rw [cell_of_row _ _ _ _ _ _ hB1]; rfl
  have c2 : W1.cell? ⟨W0.heap.size, 2, none⟩ = some (.int .u64 150) := by rw [cell_of_row _ _ _ _ _ _ hB1]; rfl
  have hv : (ReflectliteValue.unpack (.iface 63 (.pointer (some ⟨tb, 0, none⟩)))).run Tryd.prog w = .ok (rv 63 ⟨w.heap.size, 0, none⟩ 150) W0 := by rw [← eW]; exact valueOfI _ _
  have hn := isNilI ⟨w.heap.size, 0, none⟩ ⟨tb, 0, none⟩ W1 (by rw [cell_of_row _ _ _ _ _ _ hv1]; rfl)
  have hw1 : W0.alloc (.cells #[.pointer (some ⟨5, 63, none⟩), .pointer (some ⟨w.heap.size, 0, none⟩), .int .u64 150] 74) = W1 := eW1
  have hAs := Lib.hid (as_own l _ w.heap.size tb o0 W1 (hc.keep (fun k hk => hb1.block k hk)) hv1 ht1)
  have HB1 := Lib.hid hb1
  have HT1 := Lib.hid ht1
  have HV1 := Lib.hid hv1
  have HT := Lib.hid ht
  have Z0 := Lib.hid z0
  clear eW hb0 hv0 eW1 hb1 hv1 hB1 ht1 ht he z0
  have h1 := xValueOf
  have h2 := xType
  have h3 := xKind
  have h4 := xIsNil
  have h5 := xElem
  have h6 := xImpl
  have m1 := mKind
  have m2 := mElem
  have m3 := mImpl
  have f1 := typeI
  have f2 := kindI
  have f3 := elemI
  have f4 := kindN
  have f5 := implN
  go_enter Tryd.func28, Tryd.ntmps28
  go_wp2_with fail
  refine hAs.out.mono ?_
  rintro e w2 ⟨rfl, rfl⟩
  clear hAs
  go_wp2_with fail
  go_ret
  exact ⟨rfl, HB1.out.alloc HB1.out.size _⟩

set_option maxRecDepth 20000 in
set_option maxHeartbeats 4000000 in
theorem As_ptr (p : Addr) (tb : Nat) (o0 : Value) (w : World) (he : ErrT w) (ht : w.heap[tb]? = some (.cells #[o0] 55)) :
    Calls Tryd.prog 28 #[.iface 55 (.pointer (some p)), .iface 70 (.pointer (some ⟨tb, 0, none⟩))] w fun e w' => e = .returned (.bool true) ∧ KeepX (fun k => k = tb) w w' ∧ w'.heap[tb]? = some (.cells #[.pointer (some p)] 55) := by
  obtain ⟨W0, eW⟩ : ∃ W0, w.alloc (.cells #[.pointer (some ⟨tb, 0, none⟩)] 70) = W0 := ⟨_, rfl⟩
  have z0 : W0.heap.size = w.heap.size + 1 := by rw [← eW]; simp
  have hb0 : Below w.heap.size w W0 := by rw [← eW]; exact (Below.refl _ _).alloc (Nat.le_refl _) _
  have hv0 : W0.heap[w.heap.size]? = some (.cells #[.pointer (some ⟨tb, 0, none⟩)] 70) := by rw [← eW]; exact World.alloc_heap_new _ _
  obtain ⟨W1, eW1⟩ : ∃ W1, W0.alloc (.cells #[hd 70, .pointer (some ⟨w.heap.size, 0, none⟩), .int .u64 150] 74) = W1 := ⟨_, rfl⟩
  have hb1 : Below w.heap.size w W1 := by rw [← eW1]; exact hb0.alloc hb0.size _
  have hv1 : W1.heap[w.heap.size]? = some (.cells #[.pointer (some ⟨tb, 0, none⟩)] 70) := by rw [← eW1]; exact (Below.heap_alloc _ _ _ (by omega)).trans hv0
  have hB1 : W1.heap[W0.heap.size]? = some (.cells #[hd 70, .pointer (some ⟨w.heap.size, 0, none⟩), .int .u64 150] 74) := by rw [← eW1]; exact World.alloc_heap_new _ _
  have ht1 : W1.heap[tb]? = some (.cells #[o0] 55) := (hb1.block _ (Array.getElem?_eq_some_iff.1 ht).1).trans ht
  have g1 : W1.cell? ⟨1, 0, none⟩ = some (rt 27) := he.keep hb1
  have c0 : W1.cell? ⟨W0.heap.size, 0, none⟩ = some (hd 70) := by rw [cell_of_row _ _ _ _ _ _ hB1]; rfl
  have c1 : W1.cell? ⟨W0.heap.size, 1, none⟩ = some (.pointer (some ⟨w.heap.size, 0, none⟩)) := by rw [cell_of_row _ _ _ _ _ _ hB1]; rfl
  have c2 : W1.cell? ⟨W0.heap.size, 2, none⟩ = some (.int .u64 150) := by rw [cell_of_row _ _ _ _ _ _ hB1]; rfl
  have hv : (ReflectliteValue.unpack (.iface 70 (.pointer (some ⟨tb, 0, none⟩)))).run Tryd.prog w = .ok (rv 70 ⟨w.heap.size, 0, none⟩ 150) W0 := by rw [← eW]; exact valueOfE _ _
  have hn := isNilE ⟨w.heap.size, 0, none⟩ ⟨tb, 0, none⟩ W1 (by rw [cell_of_row _ _ _ _ _ _ hv1]; rfl)
  have hw1 : W0.alloc (.cells #[.pointer (some ⟨5, 70, none⟩), .pointer (some ⟨w.heap.size, 0, none⟩), .int .u64 150] 74) = W1 := eW1
  have hAs := Lib.hid (as_ptr p w.heap.size tb o0 W1 hv1 ht1)
  have HB1 := Lib.hid hb1
  have HT1 := Lib.hid ht1
  have HV1 := Lib.hid hv1
  have HT := Lib.hid ht
  have Z0 := Lib.hid z0
  clear eW hb0 hv0 eW1 hb1 hv1 hB1 ht1 ht he z0
  have h1 := xValueOf
  have h2 := xType
  have h3 := xKind
  have h4 := xIsNil
  have h5 := xElem
  have h6 := xImpl
  have m1 := mKind
  have m2 := mElem
  have m3 := mImpl
  have f1 := typeE
  have f2 := kindE
  have f3 := elemE
  have f4 := kindP
  have f5 := implP
  go_enter Tryd.func28, Tryd.ntmps28
  go_wp2_with fail
  refine hAs.out.mono ?_
  rintro e w2 ⟨rfl, rfl⟩
  clear hAs
  go_wp2_with fail
  go_ret
  refine ⟨rfl, ?_, ?_⟩
  · exact KeepX.setCell (E := fun k => k = tb) (p := ⟨tb, 0, none⟩) (KeepX.of_below (((HB1.out.alloc HB1.out.size (.cells #[hd 70, .pointer (some ⟨w.heap.size, 0, none⟩), .int .u64 150] 74)).alloc (by simp; have := HB1.out.size; omega) (.cells #[.pointer (some p)] 55)))) rfl _
  · exact alloc_set_row _ _ tb _ _ _ ((Below.heap_alloc _ _ _ (Array.getElem?_eq_some_iff.1 HT1.out).1).trans HT1.out)

set_option maxRecDepth 20000 in
set_option maxHeartbeats 4000000 in
theorem As_ptrN (n : Int) (tb : Nat) (o0 : Value) (w : World) (he : ErrT w) (ht : w.heap[tb]? = some (.cells #[o0] 55)) :
    Calls Tryd.prog 28 #[.iface 23 (.int .i64 n), .iface 70 (.pointer (some ⟨tb, 0, none⟩))] w fun e w' => e = .returned (.bool false) ∧ Below w.heap.size w w' := by
  obtain ⟨W0, eW⟩ : ∃ W0, w.alloc (.cells #[.pointer (some ⟨tb, 0, none⟩)] 70) = W0 := ⟨_, rfl⟩
  have z0 : W0.heap.size = w.heap.size + 1 := by rw [← eW]; simp
  have hb0 : Below w.heap.size w W0 := by rw [← eW]; exact (Below.refl _ _).alloc (Nat.le_refl _) _
  have hv0 : W0.heap[w.heap.size]? = some (.cells #[.pointer (some ⟨tb, 0, none⟩)] 70) := by rw [← eW]; exact World.alloc_heap_new _ _
  obtain ⟨W1, eW1⟩ : ∃ W1, W0.alloc (.cells #[hd 70, .pointer (some ⟨w.heap.size, 0, none⟩), .int .u64 150] 74) = W1 := ⟨_, rfl⟩
  have hb1 : Below w.heap.size w W1 := by rw [← eW1]; exact hb0.alloc hb0.size _
  have hv1 : W1.heap[w.heap.size]? = some (.cells #[.pointer (some ⟨tb, 0, none⟩)] 70) := by rw [← eW1]; exact (Below.heap_alloc _ _ _ (by omega)).trans hv0
  have hB1 : W1.heap[W0.heap.size]? = some (.cells #[hd 70, .pointer (some ⟨w.heap.size, 0, none⟩), .int .u64 150] 74) := by rw [← eW1]; exact World.alloc_heap_new _ _
  have ht1 : W1.heap[tb]? = some (.cells #[o0] 55) := (hb1.block _ (Array.getElem?_eq_some_iff.1 ht).1).trans ht
  have g1 : W1.cell? ⟨1, 0, none⟩ = some (rt 27) := he.keep hb1
  have c0 : W1.cell? ⟨W0.heap.size, 0, none⟩ = some (hd 70) := by rw [cell_of_row _ _ _ _ _ _ hB1]; rfl
  have c1 : W1.cell? ⟨W0.heap.size, 1, none⟩ = some (.pointer (some ⟨w.heap.size, 0, none⟩)) := by rw [cell_of_row _ _ _ _ _ _ hB1]; rfl
  have c2 : W1.cell? ⟨W0.heap.size, 2, none⟩ = some (.int .u64 150) := by rw [cell_of_row _ _ _ _ _ _ hB1]; rfl
  have hv : (ReflectliteValue.unpack (.iface 70 (.pointer (some ⟨tb, 0, none⟩)))).run Tryd.prog w = .ok (rv 70 ⟨w.heap.size, 0, none⟩ 150) W0 := by rw [← eW]; exact valueOfE _ _
  have hn := isNilE ⟨w.heap.size, 0, none⟩ ⟨tb, 0, none⟩ W1 (by rw [cell_of_row _ _ _ _ _ _ hv1]; rfl)
  have hw1 : W0.alloc (.cells #[.pointer (some ⟨5, 70, none⟩), .pointer (some ⟨w.heap.size, 0, none⟩), .int .u64 150] 74) = W1 := eW1
  have hAs := Lib.hid (as_ptrN n w.heap.size tb W1)
  have HB1 := Lib.hid hb1
  have HT1 := Lib.hid ht1
  have HV1 := Lib.hid hv1
  have HT := Lib.hid ht
  have Z0 := Lib.hid z0
  clear eW hb0 hv0 eW1 hb1 hv1 hB1 ht1 ht he z0
  have h1 := xValueOf
  have h2 := xType
  have h3 := xKind
  have h4 := xIsNil
  have h5 := xElem
  have h6 := xImpl
  have m1 := mKind
  have m2 := mElem
  have m3 := mImpl
  have f1 := typeE
  have f2 := kindE
  have f3 := elemE
  have f4 := kindP
  have f5 := implP
  go_enter Tryd.func28, Tryd.ntmps28
  go_wp2_with fail
  refine hAs.out.mono ?_
  rintro e w2 ⟨rfl, rfl⟩
  clear hAs
  go_wp2_with fail
  go_ret
  exact ⟨rfl, HB1.out.alloc HB1.out.size _⟩

set_option maxRecDepth 20000 in
set_option maxHeartbeats 4000000 in
theorem As_ptrO (tb : Nat) (o0 : Value) (w : World) (he : ErrT w) (ht : w.heap[tb]? = some (.cells #[o0] 55)) :
    Calls Tryd.prog 28 #[.iface 44 (.agg #[]), .iface 70 (.pointer (some ⟨tb, 0, none⟩))] w fun e w' => e = .returned (.bool false) ∧ Below w.heap.size w w' := by
  obtain ⟨W0, eW⟩ : ∃ W0, w.alloc (.cells #[.pointer (some ⟨tb, 0, none⟩)] 70) = W0 := ⟨_, rfl⟩
  have z0 : W0.heap.size = w.heap.size + 1 := by rw [← eW]; simp
  have hb0 : Below w.heap.size w W0 := by rw [← eW]; exact (Below.refl _ _).alloc (Nat.le_refl _) _
  have hv0 : W0.heap[w.heap.size]? = some (.cells #[.pointer (some ⟨tb, 0, none⟩)] 70) := by rw [← eW]; exact World.alloc_heap_new _ _
  obtain ⟨W1, eW1⟩ : ∃ W1, W0.alloc (.cells #[hd 70, .pointer (some ⟨w.heap.size, 0, none⟩), .int .u64 150] 74) = W1 := ⟨_, rfl⟩
  have hb1 : Below w.heap.size w W1 := by rw [← eW1]; exact hb0.alloc hb0.size _
  have hv1 : W1.heap[w.heap.size]? = some (.cells #[.pointer (some ⟨tb, 0, none⟩)] 70) := by rw [← eW1]; exact (Below.heap_alloc _ _ _ (by omega)).trans hv0
  have hB1 : W1.heap[W0.heap.size]? = some (.cells #[hd 70, .pointer (some ⟨w.heap.size, 0, none⟩), .int .u64 150] 74) := by rw [← eW1]; exact World.alloc_heap_new _ _
  have ht1 : W1.heap[tb]? = some (.cells #[o0] 55) := (hb1.block _ (Array.getElem?_eq_some_iff.1 ht).1).trans ht
  have g1 : W1.cell? ⟨1, 0, none⟩ = some (rt 27) := he.keep hb1
  have c0 : W1.cell? ⟨W0.heap.size, 0, none⟩ = some (hd 70) := by rw [cell_of_row _ _ _ _ _ _ hB1]; rfl
  have c1 : W1.cell? ⟨W0.heap.size, 1, none⟩ = some (.pointer (some ⟨w.heap.size, 0, none⟩)) := by rw [cell_of_row _ _ _ _ _ _ hB1]; rfl
  have c2 : W1.cell? ⟨W0.heap.size, 2, none⟩ = some (.int .u64 150) := by rw [cell_of_row _ _ _ _ _ _ hB1]; rfl
  have hv : (ReflectliteValue.unpack (.iface 70 (.pointer (some ⟨tb, 0, none⟩)))).run Tryd.prog w = .ok (rv 70 ⟨w.heap.size, 0, none⟩ 150) W0 := by rw [← eW]; exact valueOfE _ _
  have hn := isNilE ⟨w.heap.size, 0, none⟩ ⟨tb, 0, none⟩ W1 (by rw [cell_of_row _ _ _ _ _ _ hv1]; rfl)
  have hw1 : W0.alloc (.cells #[.pointer (some ⟨5, 70, none⟩), .pointer (some ⟨w.heap.size, 0, none⟩), .int .u64 150] 74) = W1 := eW1
  have hAs := Lib.hid (as_ptrO w.heap.size tb W1)
  have HB1 := Lib.hid hb1
  have HT1 := Lib.hid ht1
  have HV1 := Lib.hid hv1
  have HT := Lib.hid ht
  have Z0 := Lib.hid z0
  clear eW hb0 hv0 eW1 hb1 hv1 hB1 ht1 ht he z0
  have h1 := xValueOf
  have h2 := xType
  have h3 := xKind
  have h4 := xIsNil
  have h5 := xElem
  have h6 := xImpl
  have m1 := mKind
  have m2 := mElem
  have m3 := mImpl
  have f1 := typeE
  have f2 := kindE
  have f3 := elemE
  have f4 := kindP
  have f5 := implP
  go_enter Tryd.func28, Tryd.ntmps28
  go_wp2_with fail
  refine hAs.out.mono ?_
  rintro e w2 ⟨rfl, rfl⟩
  clear hAs
  go_wp2_with fail
  go_ret
  exact ⟨rfl, HB1.out.alloc HB1.out.size _⟩

theorem As_nil (t : Value) (w : World) : Calls Tryd.prog 28 #[.nilIface, t] w fun e w' => e = .returned (.bool false) ∧ w' = w := by
  go_enter Tryd.func28, Tryd.ntmps28
  go_wp2
  go_ret
  exact ⟨rfl, rfl⟩

end Go.Proofs.YtabjpnggihginaaDoor
