/- Slices of int64: cut, put one behind the other. -/
import Derived.Test.YtikjnfghlohjkaaGreatDoorMonB
import Derived.Laws.AppendOwnNone
import Derived.Deep.RegionHeld3
import Derived.OwnWalk
namespace Go.Proofs.YtikjnfghlohjkaaGreatDoor
open Go.RowKit

theorem infoI : (Tryz.prog.info? 2).map (fun i => (i.zero, i.size, i.bytes)) = some (some (.int .i64 0), 1, 8) := by kernel_rfl
theorem append_none_c {w : World} (base : Nat) (ty : TypeId) (v : Value) (n : Nat) (xs : List Value) (hown : w.ownsRow base 2 1 v n xs) (c : Nat) :
    (Builtin.append_ #[22, 22] ty #[v, .slice none 0 c]).run Tryz.prog w = .ok v w := by
  obtain ⟨i, hi, hz0, hz1, hz2⟩ := info_parts infoI
  have ht := Tryz.underlying22
  rcases hown.2 with ⟨rfl, rfl⟩ | ⟨g, cap, cur, rfl, _, _, hnc, _⟩
  · simp [Builtin.append_, run_underlying ht, sizeOf, typeInfo, hi, Builtin.lenOf, Builtin.firstCells]
  · simp [Builtin.append_, run_underlying ht, sizeOf, typeInfo, hi, Builtin.lenOf, Builtin.firstCells, hnc, storeCells]
def ivs (l : List Int) : List Value := l.map (Value.int .i64)
theorem ivs_len (l : List Int) : (ivs l).length = l.length := by unfold ivs; simp
theorem ivs_app (l m : List Int) : ivs (l ++ m) = ivs l ++ ivs m := by unfold ivs; simp
/-- append(v, xs...), v the call's own, xs any row that came in -/
theorem append_ints (w : World) (base : Nat) (ty : TypeId) (v : Value) (n : Nat) (xs : List Value) (hown : w.ownsRow base 2 1 v n xs) (oa : Option Addr) (m c : Nat) (l : List Int) (hl : IntsIn .i64 w oa m c l) (hn : n + m ≤ 1000000) (hb : base ≤ w.heap.size) :
    ∃ v' w', (Builtin.append_ #[22, 22] ty #[v, .slice oa m c]).run Tryz.prog w = .ok v' w' ∧ w'.ownsRow base 2 1 v' (n + m) (xs ++ ivs l) ∧ w.grownBy w' v.ownBlock := by
  obtain ⟨i, hi, hz0, hz1, hz2⟩ := info_parts infoI
  obtain ⟨h1, h2, h3, h4, h5⟩ := hl
  have hx : maxLen = 9223372036854775807 := by decide
  cases oa with
  | none =>
    obtain rfl : m = 0 := by rcases h5 with h | ⟨b, off, e, _⟩ <;> first | exact h | cases e
    obtain rfl : l = [] := List.length_eq_zero_iff.1 h1
    refine ⟨v, w, append_none_c base ty v n xs hown c, by simpa [ivs] using hown, ?_⟩
    exact ⟨rfl, rfl, rfl, Nat.le_refl _, fun _ _ _ => rfl⟩
  | some a =>
    obtain ⟨v', w', r1, r2, r3, _⟩ := run_append_own (P := Tryz.prog) (w := w) base 22 ty 2 i (.int .i64 0) 1 8 Tryz.underlying22 hi hz0 hz1 hz2 rfl (by decide) v n xs hown a m c (ivs l) (by rw [ivs_len, h1]; omega) (fun j u hj => by
      have hj2 : j < m := by have := (List.getElem?_eq_some_iff.1 hj).1; rw [ivs_len, h1] at this; exact this
      rcases h5 with h | ⟨b, off, e, _, hc⟩
      · omega
      · cases e
        rw [Go.WideShapes.add_plain, hc j hj2]
        unfold ivs at hj
        rw [List.getElem?_map] at hj
        rw [List.getD_eq_getElem?_getD]
        cases hq : l[j]? with
        | none => rw [hq] at hj; cases hj
        | some y => rw [hq] at hj; exact hj) (fun u hu => by
      unfold ivs at hu
      obtain ⟨y, _, rfl⟩ := List.mem_map.1 hu
      rfl) (by omega) (by omega) hb
    exact ⟨v', w', r1, r2, r3⟩
/-- what is owned, as a row that came in -/
theorem ints_of_own {w : World} {B n : Nat} {v : Value} {l : List Int} (h : w.ownsRow B 2 1 v n (ivs l)) (hw : ∀ x ∈ l, (Lit.int .i64 x).wf = true) : ∃ oa c, v = .slice oa n c ∧ IntsIn .i64 w oa n c l := by
  obtain ⟨h1, h2⟩ := h
  rw [ivs_len, Nat.mul_one] at h1
  rcases h2 with ⟨rfl, rfl⟩ | ⟨g, c, cur, rfl, h3, h4, h5, h6, h7, h8⟩
  · exact ⟨none, 0, rfl, h1, Nat.le_refl _, Nat.zero_le _, hw, .inl rfl⟩
  · refine ⟨_, c, rfl, h1, h5, h6, hw, ?_⟩
    refine .inr ⟨g, 0, rfl, (Array.getElem?_eq_some_iff.1 h4).1, fun j hj => ?_⟩
    rw [Nat.mul_one] at h8
    have h9 : (ivs l)[j]? = some (.int .i64 (l.getD j 0)) := by
      unfold ivs
      rw [List.getElem?_map, List.getElem?_eq_getElem (by omega), List.getD_eq_getElem?_getD, List.getElem?_eq_getElem (by omega)]
      rfl
    rw [← h8, List.getElem?_take, if_pos hj, Array.getElem?_toList] at h9
    rw [Nat.zero_add, cell_of_row _ _ _ _ _ _ h4]
    exact h9
theorem ints_keep {k : IntKind} {w w' : World} {oa : Option Addr} {len cap : Nat} {z : List Int} (h : IntsIn k w oa len cap z) (hb : Below w.heap.size w w') : IntsIn k w' oa len cap z :=
  ⟨h.1, h.2.1, h.2.2.1, h.2.2.2.1, h.2.2.2.2.imp id (fun ⟨b, off, e, hb', hc⟩ => ⟨b, off, e, Nat.lt_of_lt_of_le hb' hb.size, fun j hj => (hb.cell (p := ⟨b, off + j, none⟩) hb').trans (hc j hj)⟩)⟩
theorem slice_from {w : World} {oa : Option Addr} {len cap : Nat} {l : List Int} (h : IntsIn .i64 w oa len cap l) (k : Nat) (hk : k ≤ len) :
    ∃ oa', (∀ W, (Instr.sliceAt 22 (.slice oa len cap) (some (.int .i64 (k : Int))) none none).run Tryz.prog W = .ok (.slice oa' (len - k) (cap - k)) W) ∧ IntsIn .i64 w oa' (len - k) (cap - k) (l.drop k) := by
  obtain ⟨h1, h2, h3, h4, h5⟩ := h
  refine ⟨if cap = k then oa else oa.map (·.add (k * 1)), fun W => ?_, ?_⟩
  · rw [run_sliceAt_slice _ _ _ _ _ _ (by kernel_rfl), run_slice_l _ _ _ _ _ (by kernel_rfl) .i64 (k : Int) (by omega) (by omega)]
    have hs : ((sizeOf (Tryz.prog.elem 22)).run Tryz.prog W) = .ok 1 W := by kernel_rfl
    rw [hs]
    simp [Result.andThen, sliced]
  · refine ⟨by rw [List.length_drop]; omega, by omega, by omega, fun n hn => h4 n (List.mem_of_mem_drop hn), ?_⟩
    by_cases h0 : len - k = 0
    · exact .inl h0
    · rcases h5 with h5 | ⟨b, off, rfl, hb, hc⟩
      · omega
      · refine .inr ⟨b, off + k, ?_, hb, fun j hj => ?_⟩
        · rw [if_neg (by omega), Option.map_some, Go.WideShapes.add_plain, Nat.mul_one]
        · rw [Nat.add_assoc, hc (k + j) (by omega)]
          simp only [List.getD_eq_getElem?_getD, List.getElem?_drop]
theorem slice_to {w : World} {oa : Option Addr} {len cap : Nat} {l : List Int} (h : IntsIn .i64 w oa len cap l) (k : Nat) (hk : k ≤ len) :
    ∃ oa', (∀ W, (Instr.sliceAt 22 (.slice oa len cap) none (some (.int .i64 (k : Int))) none).run Tryz.prog W = .ok (.slice oa' k cap) W) ∧ IntsIn .i64 w oa' k cap (l.take k) := by
  obtain ⟨h1, h2, h3, h4, h5⟩ := h
  refine ⟨if cap = 0 then oa else oa.map (·.add (0 * 1)), fun W => ?_, ?_⟩
  · rw [run_sliceAt_slice _ _ _ _ _ _ (by kernel_rfl), run_slice_h _ _ _ _ _ (by kernel_rfl) .i64 (k : Int) (by omega) (by omega)]
    have hs : ((sizeOf (Tryz.prog.elem 22)).run Tryz.prog W) = .ok 1 W := by kernel_rfl
    rw [hs]
    simp [Result.andThen, sliced]
  · refine ⟨by rw [List.length_take]; omega, by omega, h3, fun n hn => h4 n (List.mem_of_mem_take hn), ?_⟩
    by_cases h0 : k = 0
    · exact .inl h0
    · rcases h5 with h5 | ⟨b, off, rfl, hb, hc⟩
      · omega
      · refine .inr ⟨b, off, ?_, hb, fun j hj => ?_⟩
        · rw [if_neg (by omega), Option.map_some, Go.WideShapes.add_plain, Nat.zero_mul, Nat.add_zero]
        · rw [hc j (by omega)]
          simp only [List.getD_eq_getElem?_getD, List.getElem?_take, if_pos hj]
/-- an append that is known, in a region that draws; in a row -/
theorem step_append_run {ops : Array Oper} {o : Oper} {a : Act} {w : World} {K : Act → World → Prop} {Q : Exit → Act → World → Prop} {E : Prop} (hg : o.guard = none) (s x : Operand) (t : TypeId)
    (hop : o.op = Op.call { callee := Callee.builtin Builtin.append, args := #[s, x], argTypes := #[t, t] }) (v xv v' : Value) (w' : World) (hs : a.eval s = v) (hx : a.eval x = xv)
    (hrun : (Builtin.append_ #[t, t] o.type #[v, xv]).run Tryz.prog w = .ok v' w') (hK : K (a.put o.dst v') w') : if Region.wanted o (yielded ops a.tmps) = true then Oper.wp Tryz.prog o a w K Q else E := by
  have hw : Region.wanted o (yielded ops a.tmps) = true := by simp [Region.wanted, hg]
  rw [if_pos hw]
  unfold Oper.wp
  simp [execOp, hop, resolve, invoke, builtin, hs, hx, hrun, Result.andThen]
  exact hK
theorem list_append_run {ops : Array Oper} {rest : List Oper} {o : Oper} {a : Act} {w : World} {Q : Exit → Act → World → Prop} (hgd : o.guard = none) (s x : Operand) (t : TypeId)
    (hop : o.op = Op.call { callee := Callee.builtin Builtin.append, args := #[s, x], argTypes := #[t, t] }) (v xv v' : Value) (w' : World) (hs : a.eval s = v) (hx : a.eval x = xv)
    (hrun : (Builtin.append_ #[t, t] o.type #[v, xv]).run Tryz.prog w = .ok v' w') (hK : wpList Tryz.prog ops Q rest (a.put o.dst v') w') : wpList Tryz.prog ops Q (o :: rest) a w := by
  refine wpList_plain hgd fun K hk => ?_
  unfold Oper.wp
  simp [execOp, hop, resolve, invoke, builtin, hs, hx, hrun, Result.andThen]
  exact hk _ _ hK
/-- two rows, one behind the other, in a new one -/
theorem two_app {w X : World} (ty : TypeId) (v0 : Value) (hX : X.ownsRow w.heap.size 2 1 v0 0 (ivs [])) (hb : Below w.heap.size w X) {o1 o2 : Option Addr} {m1 c1 m2 c2 : Nat} {l1 l2 : List Int} (h1 : IntsIn .i64 w o1 m1 c1 l1) (h2 : IntsIn .i64 w o2 m2 c2 l2) (M : Nat) (hM : m1 + m2 = M) (hs : M ≤ 100000) :
    ∃ v1 W1 W2 o3 c3, (Builtin.append_ #[22, 22] ty #[v0, .slice o1 m1 c1]).run Tryz.prog X = .ok v1 W1 ∧ (Builtin.append_ #[22, 22] ty #[v1, .slice o2 m2 c2]).run Tryz.prog W1 = .ok (.slice o3 M c3) W2 ∧
      IntsIn .i64 W2 o3 M c3 (l1 ++ l2) ∧ Below w.heap.size w W2 := by
  obtain ⟨v1, W1, r1, n1, g1⟩ := append_ints X w.heap.size ty v0 0 _ hX o1 m1 c1 l1 (ints_keep h1 hb) (by omega) hb.size
  have b1 : Below w.heap.size w W1 := hb.grown g1 hb.size (fun k hk => (hX.lt k hk).1)
  obtain ⟨v2, W2, r2, n2, g2⟩ := append_ints W1 w.heap.size ty v1 _ _ n1 o2 m2 c2 l2 (ints_keep h2 b1) (by omega) b1.size
  have b2 : Below w.heap.size w W2 := b1.grown g2 b1.size (fun k hk => (n1.lt k hk).1)
  rw [show ivs [] ++ ivs l1 ++ ivs l2 = ivs (l1 ++ l2) by rw [ivs_app]; rfl, show 0 + m1 + m2 = M by omega] at n2
  obtain ⟨o3, c3, rfl, hi⟩ := ints_of_own n2 (fun x hx => by
    rcases List.mem_append.1 hx with hx | hx
    · exact h1.2.2.2.1 x hx
    · exact h2.2.2.2.1 x hx)
  exact ⟨v1, W1, W2, o3, c3, r1, r2, hi, b2⟩
theorem own_empty (w : World) : (w.alloc (.cells #[] 2)).ownsRow w.heap.size 2 1 (.slice (some ⟨w.heap.size, 0, none⟩) 0 0) 0 (ivs []) :=
  World.ownsRow_lit w #[] 0 (Nat.le_refl _) (Nat.zero_le _) rfl
theorem told_ways (t : Int) : (toldE t = 0 ∧ toldV t = t ∧ -4611686018427387904 ≤ t ∧ t ≤ 4611686018427387904) ∨ (toldE t = 41 ∧ toldV t = 0) := by
  unfold toldE toldV
  split
  · exact .inl ⟨rfl, rfl, by omega, by omega⟩
  · exact .inr ⟨rfl, rfl⟩
end Go.Proofs.YtikjnfghlohjkaaGreatDoor
