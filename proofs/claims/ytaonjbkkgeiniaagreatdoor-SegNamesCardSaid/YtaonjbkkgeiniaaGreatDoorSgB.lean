/- strings.Builder with its footprint: which blocks a write, a reading, a reset may turn. -/
import Derived.Test.YtaonjbkkgeiniaaGreatDoorBld
import Derived.Test.YtaonjbkkgeiniaaGreatDoorRangeGhost
import Derived.Test.YtaonjbkkgeiniaaGreatDoorOwnB
import Derived.Lib.AppendStr
import Derived.Lib.UnsafeStr
import Derived.Shelf.RegionOpen
namespace Go.Proofs.YtaonjbkkgeiniaaGreatDoor
open Go Go.RowKit Go.Lib

theorem append_str_at (w : World) (ty : TypeId) (v : Value) (n : Nat) (xs : List Value) (hown : w.ownsRow 0 5 1 v n xs) (s : ByteArray) (hn : n + s.size ≤ 1000000000000) :
    ∃ v' w', (Builtin.append_ #[32, 9] ty #[v, .string s]).run Tryz.prog w = .ok v' w' ∧ w'.ownsRow 0 5 1 v' (n + s.size) (xs ++ strCells s) ∧ w.grownBy w' v.ownBlock ∧ ∀ k, v'.ownBlock = some k → v.ownBlock = some k ∨ w.heap.size ≤ k := by
  obtain ⟨i, hi, hz0, hz1, hz2⟩ := info_parts infoU8b
  have ht := Tryz.underlying32
  have hu := Tryz.underlying9
  have hx : maxLen = 9223372036854775807 := by decide
  obtain ⟨v', w', hr, h2, h3, h4⟩ := run_append_own_string (P := Tryz.prog) (w := w) 0 32 9 ty 5 i ht hu hi hz0 hz1 hz2 v n xs hown s (by omega) (by omega) (Nat.zero_le _)
  refine ⟨v', w', hr, h2, h3, fun k hk => ?_⟩
  rcases hown.2 with ⟨rfl, rfl⟩ | ⟨g, cap, cur, rfl, _, hg, hnc, hcm, hcs, htake⟩
  · obtain rfl : xs = [] := List.eq_nil_of_length_eq_zero (by simpa using hown.1)
    obtain ⟨v2, w2, hr2, k2, _, _⟩ := run_append_own_string (P := Tryz.prog) (w := w) w.heap.size 32 9 ty 5 i ht hu hi hz0 hz1 hz2 _ 0 [] (World.ownsRow_nil w _ _ _) s (by omega) (by omega) (Nat.le_refl _)
    rw [hr] at hr2
    cases hr2
    exact .inr (k2.lt k hk).1
  · by_cases hroom : n + s.size ≤ cap
    · have hr2 := run_append_room_string (P := Tryz.prog) w 32 9 ty 5 i ht hu hi hz1 g n cap cur hg s hroom (by omega)
      rw [hr] at hr2
      cases hr2
      exact .inl (by simpa [Value.ownBlock] using hk)
    · have hxl : xs.length = n := by simpa using hown.1
      have hr2 := run_append_grow_string (P := Tryz.prog) w 32 9 ty 5 i (.int .u8 0) ht hu hi hz0 ⟨g, 0, none⟩ n cap xs (by rw [hz1]; simpa using hxl) (hown.cells (g := g) rfl) s (by omega) (by omega) (by rw [hz2]; exact growslice_fits (by omega) (by omega))
      rw [hr] at hr2
      cases hr2
      right
      simp [Value.ownBlock] at hk
      omega
theorem list_append_str {ops : Array Oper} {rest : List Oper} {o : Oper} {a : Act} {w : World} {Q : Exit → Act → World → Prop} (hgd : o.guard = none) (s x : Operand) (t u : TypeId)
    (hop : o.op = Op.call { callee := Callee.builtin Builtin.append, args := #[s, x], argTypes := #[t, u] }) (v xv v' : Value) (w' : World) (hs : a.eval s = v) (hx : a.eval x = xv)
    (hrun : (Builtin.append_ #[t, u] o.type #[v, xv]).run Tryz.prog w = .ok v' w') (hK : wpList Tryz.prog ops Q rest (a.put o.dst v') w') : wpList Tryz.prog ops Q (o :: rest) a w := by
  refine wpList_plain hgd fun K hk => ?_
  unfold Oper.wp
  simp [execOp, hop, resolve, invoke, builtin, hs, hx, hrun, Result.andThen]
  exact hk _ _ hK

/-- a builder whose blocks are E's: b holds the bytes l -/
def BX (E : Nat → Prop) (b : Nat) (l : List UInt8) (w : World) : Prop :=
  ∃ p v, (p = .pointer none ∨ p = .pointer (some ⟨b, 0, none⟩)) ∧ w.heap[b]? = some (.cells #[p, v] 112) ∧ w.ownsRow 0 5 1 v l.length (byteCells l) ∧ v.ownBlock ≠ some b ∧ E b ∧ ∀ k, v.ownBlock = some k → E k
theorem BX.isb {E : Nat → Prop} {b : Nat} {l : List UInt8} {w : World} (h : BX E b l w) : IsBuilder 112 5 0 b (byteCells l) w := by
  obtain ⟨p, v, hp, h1, h2, h3, _⟩ := h
  rw [← byteCells_length l] at h2
  rcases hp with rfl | rfl
  · exact .inl ⟨Nat.zero_le _, v, h1, h2, h3⟩
  · exact .inr ⟨Nat.zero_le _, v, h1, h2, h3⟩
theorem BX.lt {E : Nat → Prop} {b : Nat} {l : List UInt8} {w : World} (h : BX E b l w) : b < w.heap.size := by
  obtain ⟨p, v, _, h1, _⟩ := h
  exact (Array.getElem?_eq_some_iff.1 h1).1
theorem BX.own {E : Nat → Prop} {b : Nat} {l : List UInt8} {w : World} (h : BX E b l w) : E b := by
  obtain ⟨p, v, _, _, _, _, h, _⟩ := h
  exact h
/-- what stays where E's blocks stay -/
theorem BX.keep {E E' : Nat → Prop} {b : Nat} {l : List UInt8} {w w' : World} (h : BX E b l w) (hk : ∀ k, E k → w'.heap[k]? = w.heap[k]?) (he : ∀ k, E k → E' k) : BX E' b l w' := by
  obtain ⟨p, v, hp, h1, h2, h3, h4, h5⟩ := h
  refine ⟨p, v, hp, (hk b h4).trans h1, ⟨h2.1, h2.2.imp id (fun ⟨g, c, cur, e1, e2, e3, e4⟩ => ⟨g, c, cur, e1, e2, (hk g (h5 g (by rw [e1]; rfl))).trans e3, e4⟩)⟩, h3, he b h4, fun k hk' => he k (h5 k hk')⟩
theorem BX.keepB {E : Nat → Prop} {b : Nat} {l : List UInt8} {w w' : World} (h : BX E b l w) (hb : Below w.heap.size w w') : BX (growE E w w') b l w' := by
  obtain ⟨p, v, hp, h1, h2, h3, h4, h5⟩ := h
  exact ⟨p, v, hp, (hb.block _ (Array.getElem?_eq_some_iff.1 h1).1).trans h1, ownsRow_below h2 hb, h3, .inl h4, fun k hk => .inl (h5 k hk)⟩

set_option maxRecDepth 100000 in
set_option maxHeartbeats 2000000 in
theorem xWrite (E : Nat → Prop) (b : Nat) (l : List UInt8) (s : ByteArray) (w : World) (h : BX E b l w) (hlen : l.length + s.size ≤ 100000000000) :
    Calls Tryz.prog 78 #[.pointer (some ⟨b, 0, none⟩), .string s] w fun e w' => e = .returned (.tuple #[.int .i64 s.size, .nilIface]) ∧ KeepX E w w' ∧ BX (growE E w w') b (l ++ s.data.toList) w' := by
  obtain ⟨p, v, hp, h1, h2, h3, h4, h5⟩ := h
  have hcc : Calls Tryz.prog 101 #[.pointer (some ⟨b, 0, none⟩)] w fun e w' => e = .returned (.tuple #[]) ∧ KeepX E w w' ∧ w'.heap.size = w.heap.size ∧ w'.heap[b]? = some (.cells #[.pointer (some ⟨b, 0, none⟩), v] 112) ∧ w'.ownsRow 0 5 1 v l.length (byteCells l) := by
    have hb0 : w.cell? ⟨b, 0, none⟩ = some p := by rw [cell_of_row _ _ _ _ _ _ h1]; rfl
    rcases hp with rfl | rfl
    · refine (bcc_fresh b w hb0 (by simp [World.shape?, h1]) (frozen_of_row _ _ _ _ _ h1)).mono ?_
      rintro e w' ⟨rfl, rfl⟩
      refine ⟨rfl, (KeepX.refl E w).setCell (p := ⟨b, 0, none⟩) h4 _, by simp, heap_setCell_same w b 0 _ _ _ h1, ⟨h2.1, h2.2.imp id (fun ⟨g, c, cur, e1, e2, e3, e4⟩ => ⟨g, c, cur, e1, e2, ?_, e4⟩)⟩⟩
      exact (heap_setCell_ne w ⟨b, 0, none⟩ _ (show g ≠ b from fun e => h3 (by rw [e1, e]; rfl))).trans e3
    · refine (bcc_used b w hb0).mono ?_
      rintro e w' ⟨rfl, rfl⟩
      exact ⟨rfl, KeepX.refl E w, rfl, h1, h2⟩
  have HCC := Lib.hid hcc
  have H3 := Lib.hid h3
  have H4 := Lib.hid h4
  have H5 := Lib.hid h5
  clear hcc h1 h2 hp h3 h4 h5
  go_enter Tryz.func78, Tryz.ntmps78
  go_wp2_with fail
  refine HCC.out.mono ?_
  rintro e w1 ⟨rfl, hk1, hz1, hb1, ho1⟩
  obtain ⟨v', w2, hr, ho2, hg2, hat⟩ := append_str_at w1 32 v l.length _ ho1 s (by omega)
  have c0 : w1.cell? ⟨b, 0, none⟩ = some (.pointer (some ⟨b, 0, none⟩)) := by rw [cell_of_row _ _ _ _ _ _ hb1]; rfl
  have c1 : w1.cell? ⟨b, 1, none⟩ = some v := by rw [cell_of_row _ _ _ _ _ _ hb1]; rfl
  have hlt : b < w1.heap.size := (Array.getElem?_eq_some_iff.1 hb1).1
  have hb2 : w2.heap[b]? = some (.cells #[.pointer (some ⟨b, 0, none⟩), v] 112) := (hg2.block b hlt (fun e => H3.out e.symm)).trans hb1
  have d0 : w2.cell? ⟨b, 0, none⟩ = some (.pointer (some ⟨b, 0, none⟩)) := by rw [cell_of_row _ _ _ _ _ _ hb2]; rfl
  have d1 : w2.cell? ⟨b, 1, none⟩ = some v := by rw [cell_of_row _ _ _ _ _ _ hb2]; rfl
  have f1 : w2.frozen? ⟨b, 1, none⟩ = false := frozen_of_row _ _ _ _ _ hb2
  obtain ⟨ao, n', cap, rfl⟩ : ∃ ao n' cap, v' = .slice ao n' cap := by
    rcases ho2.2 with ⟨hv, _⟩ | ⟨g, cap, cur, hv, _⟩
    · exact ⟨_, _, _, hv⟩
    · exact ⟨_, _, _, hv⟩
  have hk2 : KeepX E w1 w2 := ⟨hg2.os, hg2.tape, hg2.output, hg2.size, fun k hk hn => hg2.block k hk (fun e => hn (H5.out k e.symm))⟩
  have HR := Lib.hid hr
  have HB2 := Lib.hid hb2
  have HO2 := Lib.hid ho2
  have HAT := Lib.hid hat
  have HK := Lib.hid (hk1.trans hk2)
  have HZ := Lib.hid (⟨hz1, hg2.size⟩ : w1.heap.size = w.heap.size ∧ w1.heap.size ≤ w2.heap.size)
  have HLT := Lib.hid hlt
  clear hr hb2 ho2 hat hk1 hk2 hz1 hg2 hlt hb1 ho1
  go_wp2_with (at_builtin; refine list_append_str rfl (.tmp 12) (.tmp 13) 32 9 rfl _ _ _ _ rfl rfl HR.out ?_)
  go_ret2
  have hE : growE E w (w2.setCell ⟨b, 1, none⟩ (.slice ao n' cap)) b := .inl H4.out
  have hown : ∀ k, Value.ownBlock (.slice ao n' cap) = some k → growE E w (w2.setCell ⟨b, 1, none⟩ (.slice ao n' cap)) k := by
    intro k hk
    rcases HAT.out k hk with h | h
    · exact .inl (H5.out k h)
    · right
      have := (HO2.out.lt k hk).2
      have := HZ.out
      refine ⟨by omega, ?_⟩
      show k < (w2.setCell _ _).heap.size
      simp
      omega
  have hne : Value.ownBlock (.slice ao n' cap) ≠ some b := by
    intro e
    rcases HAT.out b e with h | h
    · exact H3.out h
    · have := HLT.out; omega
  refine ⟨rfl, HK.out.setCell (p := ⟨b, 1, none⟩) H4.out _, _, _, .inr rfl, heap_setCell_same w2 b 1 _ _ _ HB2.out, ?_, hne, hE, hown⟩
  have ho := HO2.out
  rw [strCells_eq, ← byteCells_append, show l.length + s.size = (l ++ s.data.toList).length by rw [List.length_append]; rfl] at ho
  exact ⟨ho.1, ho.2.imp id (fun ⟨g, c, cur, e1, e2, e3, e4⟩ => ⟨g, c, cur, e1, e2, (heap_setCell_ne w2 ⟨b, 1, none⟩ _ (show g ≠ b from fun e => hne (by rw [e1, e]; rfl))).trans e3, e4⟩)⟩

set_option maxRecDepth 100000 in
set_option maxHeartbeats 2000000 in
/-- String, of a builder that holds something: its text; the builder's own cells stay -/
theorem xString (E : Nat → Prop) (b : Nat) (l : List UInt8) (w : World) (h : BX E b l w) (h0 : l ≠ []) :
    Calls Tryz.prog 80 #[.pointer (some ⟨b, 0, none⟩)] w fun e w' => e = .returned (.string ⟨l.toArray⟩) ∧ KeepX E w w' ∧ ∃ p v, w'.heap[b]? = some (.cells #[p, v] 112) := by
  obtain ⟨p, v, hp, h1, h2, h3, h4, h5⟩ := h
  have hl0 : l.length ≠ 0 := by simpa using h0
  obtain ⟨g, cap, cur, rfl, hg, hnc, hcm, hcs, htake⟩ : ∃ g cap cur, v = .slice (some ⟨g, 0, none⟩) l.length cap ∧ w.heap[g]? = some (.cells cur 5 (0, 0)) ∧ l.length ≤ cap ∧ cap ≤ maxLen ∧ cur.size = cap * 1 ∧ cur.toList.take (l.length * 1) = byteCells l := by
    rcases h2.2 with ⟨_, hz⟩ | ⟨g, cap, cur, hv, _, r⟩
    · exact absurd hz hl0
    · exact ⟨g, cap, cur, hv, r⟩
  have c1 : w.drew.cell? ⟨b, 1, none⟩ = some (.slice (some ⟨g, 0, none⟩) l.length cap) := by
    rw [World.cell?_drew, cell_of_row _ _ _ _ _ _ h1]; rfl
  have hSD : (Builtin.unsafeSliceData_ #[32] 137 #[.slice (some ⟨g, 0, none⟩) l.length cap]).run Tryz.prog w.drew = .ok (.pointer (some ⟨g, 0, none⟩)) w.drew :=
    Lib.run_unsafeSliceData_row _ _ _ _ _ _ (by omega)
  have hUS : (Builtin.unsafeString_ #[137, 3] 9 #[.pointer (some ⟨g, 0, none⟩), .int .i64 l.length]).run Tryz.prog w.drew = .ok (.string ⟨l.toArray⟩) (w.drew.freeze ⟨g, 0, none⟩ l.length) := by
    refine Lib.run_unsafeString_row w.drew 137 3 9 5 Tryz.underlying137 (by kernel_rfl) g cur.size (by have hg' : w.drew.heap[g]? = some (.cells cur 5 (0, 0)) := hg; simp [World.shape?, hg']) l h0 (by omega) (by unfold maxLen at hcm; omega) ?_
    intro j x hx
    exact h2.cells (g := g) rfl j (.int .u8 x.toNat) (by simp [Lib.byteCells, hx])
  have hgb : g ≠ b := fun e => h3 (by rw [e]; rfl)
  have hgE : E g := h5 g rfl
  have HFZ := Lib.hid (show KeepX E w (w.drew.freeze ⟨g, 0, none⟩ l.length) ∧ (w.drew.freeze ⟨g, 0, none⟩ l.length).heap[b]? = some (.cells #[p, .slice (some ⟨g, 0, none⟩) l.length cap] 112) by
    have hb := Lib.below_freeze (B := 0) (Below.drew (Below.refl 0 w)) (p := ⟨g, 0, none⟩) (Nat.zero_le _) l.length
    have hne : ∀ k, k ≠ g → (w.drew.freeze ⟨g, 0, none⟩ l.length).heap[k]? = w.heap[k]? := fun k hk => by
      unfold World.freeze
      split
      · rfl
      · simp only [Array.getElem?_modify]
        rw [if_neg (fun e => hk e.symm)]
        rfl
    exact ⟨⟨hb.os, hb.tape, hb.output, hb.size, fun k _ hn => hne k (fun e => hn (e ▸ hgE))⟩, (hne b hgb.symm).trans h1⟩)
  clear h1 h2 h3 h4 h5 hp hg hnc hcm hcs htake hgE hgb h0 hl0
  have mixed : Tryz.prog.follows .mixedOrders = true := by kernel_rfl
  go_enter Tryz.func80, Tryz.ntmps80
  go_wp2
  go_region_o
  all_goals (go_wp2; go_ret; exact ⟨rfl, HFZ.out.1, _, _, HFZ.out.2⟩)
set_option maxRecDepth 100000 in
set_option maxHeartbeats 2000000 in
/-- Reset -/
theorem xReset (E : Nat → Prop) (b : Nat) (p v : Value) (w : World) (h1 : w.heap[b]? = some (.cells #[p, v] 112)) (hE : E b) :
    Calls Tryz.prog 81 #[.pointer (some ⟨b, 0, none⟩)] w fun e w' => e = .returned (.tuple #[]) ∧ KeepX E w w' ∧ BX (growE E w w') b [] w' := by
  have c0 : w.cell? ⟨b, 0, none⟩ = some p := by rw [cell_of_row _ _ _ _ _ _ h1]; rfl
  have c1 : w.cell? ⟨b, 1, none⟩ = some v := by rw [cell_of_row _ _ _ _ _ _ h1]; rfl
  have f0 : w.frozen? ⟨b, 0, none⟩ = false := frozen_of_row _ _ _ _ _ h1
  have f1 : w.frozen? ⟨b, 1, none⟩ = false := frozen_of_row _ _ _ _ _ h1
  have k0 := heap_setCell_same w b 0 _ _ (.pointer none) h1
  have k1 := heap_setCell_same _ b 1 _ _ (.slice none 0 0) k0
  have HK := Lib.hid (show KeepX E w ((w.setCell ⟨b, 0, none⟩ (.pointer none)).setCell ⟨b, 1, none⟩ (.slice none 0 0)) ∧ BX (growE E w ((w.setCell ⟨b, 0, none⟩ (.pointer none)).setCell ⟨b, 1, none⟩ (.slice none 0 0))) b [] ((w.setCell ⟨b, 0, none⟩ (.pointer none)).setCell ⟨b, 1, none⟩ (.slice none 0 0)) from
    ⟨((KeepX.refl E w).setCell (p := ⟨b, 0, none⟩) hE _).setCell (p := ⟨b, 1, none⟩) hE _, _, _, .inl rfl, k1, World.ownsRow_nil _ _ _ _, by simp [Value.ownBlock], .inl hE, fun k hk => by simp [Value.ownBlock] at hk⟩)
  clear k0 k1 h1 hE
  go_enter Tryz.func81, Tryz.ntmps81
  go_wp2_with fail
  go_end0
  exact ⟨rfl, HK.out.1, HK.out.2⟩
end Go.Proofs.YtaonjbkkgeiniaaGreatDoor
