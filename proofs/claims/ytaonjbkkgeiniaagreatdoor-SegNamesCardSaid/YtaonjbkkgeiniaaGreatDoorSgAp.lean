/- Slices of strings: cut, put one behind the other. -/
import Derived.Test.YtaonjbkkgeiniaaGreatDoorSgC
import Derived.Test.YtaonjbkkgeiniaaGreatDoorSgW0
import Derived.Laws.AppendOwnNone
import Derived.OwnWalk
namespace Go.Proofs.YtaonjbkkgeiniaaGreatDoor
open Go.RowKit

theorem append_none_c {w : World} (base : Nat) (ty : TypeId) (v : Value) (n : Nat) (xs : List Value) (hown : w.ownsRow base 9 1 v n xs) (c : Nat) :
    (Builtin.append_ #[23, 23] ty #[v, .slice none 0 c]).run Tryz.prog w = .ok v w := by
  obtain ⟨i, hi, hz0, hz1, hz2⟩ := info_parts infoS
  have ht := Tryz.underlying23
  rcases hown.2 with ⟨rfl, rfl⟩ | ⟨g, cap, cur, rfl, _, _, hnc, _⟩
  · simp [Builtin.append_, run_underlying ht, sizeOf, typeInfo, hi, Builtin.lenOf, Builtin.firstCells]
  · simp [Builtin.append_, run_underlying ht, sizeOf, typeInfo, hi, Builtin.lenOf, Builtin.firstCells, hnc, storeCells]
/-- append(v, xs...), v the call's own, xs any row that came in -/
theorem append_strs (w : World) (base : Nat) (ty : TypeId) (v : Value) (n : Nat) (xs : List Value) (hown : w.ownsRow base 9 1 v n xs) (oa : Option Addr) (m c : Nat) (l : List ByteArray) (hl : StrsIn w oa m c l) (hn : n + m ≤ 1000000) (hb : base ≤ w.heap.size) :
    ∃ v' w', (Builtin.append_ #[23, 23] ty #[v, .slice oa m c]).run Tryz.prog w = .ok v' w' ∧ w'.ownsRow base 9 1 v' (n + m) (xs ++ stRow l) ∧ w.grownBy w' v.ownBlock := by
  obtain ⟨i, hi, hz0, hz1, hz2⟩ := info_parts infoS
  obtain ⟨h1, h2, h3, h4, h5⟩ := hl
  have hx : maxLen = 9223372036854775807 := by decide
  cases oa with
  | none =>
    obtain rfl : m = 0 := by rcases h5 with h | ⟨b, off, e, _⟩ <;> first | exact h | cases e
    obtain rfl : l = [] := List.length_eq_zero_iff.1 h1
    refine ⟨v, w, append_none_c base ty v n xs hown c, by simpa [stRow] using hown, ?_⟩
    exact ⟨rfl, rfl, rfl, Nat.le_refl _, fun _ _ _ => rfl⟩
  | some a =>
    obtain ⟨v', w', r1, r2, r3, _⟩ := run_append_own (P := Tryz.prog) (w := w) base 23 ty 9 i (.string ⟨#[]⟩) 1 16 Tryz.underlying23 hi hz0 hz1 hz2 rfl (by decide) v n xs hown a m c (stRow l) (by rw [stRow_len, h1]; omega) (fun j u hj => by
      have hj2 : j < m := by have := (List.getElem?_eq_some_iff.1 hj).1; rw [stRow_len, h1] at this; exact this
      rcases h5 with h | ⟨b, off, e, _, hc⟩
      · omega
      · cases e
        rw [Go.WideShapes.add_plain, hc j hj2]
        unfold stRow at hj
        rw [List.getElem?_map] at hj
        rw [List.getD_eq_getElem?_getD]
        cases hq : l[j]? with
        | none => rw [hq] at hj; cases hj
        | some y => rw [hq] at hj; exact hj) (fun u hu => by
      unfold stRow at hu
      obtain ⟨y, _, rfl⟩ := List.mem_map.1 hu
      rfl) (by omega) (by omega) hb
    exact ⟨v', w', r1, r2, r3⟩
theorem slice_strs {w : World} {oa : Option Addr} {len cap : Nat} {l : List ByteArray} (h : StrsIn w oa len cap l) (k : Nat) (hk : k ≤ len) :
    ∃ oa', (∀ W, (Instr.sliceAt 23 (.slice oa len cap) none (some (.int .i64 (k : Int))) none).run Tryz.prog W = .ok (.slice oa' k cap) W) ∧ StrsIn w oa' k cap (l.take k) := by
  obtain ⟨h1, h2, h3, h4, h5⟩ := h
  refine ⟨if cap = 0 then oa else oa.map (·.add (0 * 1)), fun W => ?_, ?_⟩
  · rw [run_sliceAt_slice _ _ _ _ _ _ (by kernel_rfl), run_slice_h _ _ _ _ _ (by kernel_rfl) .i64 (k : Int) (by omega) (by omega)]
    have hs : ((sizeOf (Tryz.prog.elem 23)).run Tryz.prog W) = .ok 1 W := by kernel_rfl
    rw [hs]
    simp [Result.andThen, sliced]
  · refine ⟨by rw [List.length_take]; omega, by omega, by omega, fun n hn => h4 n (List.mem_of_mem_take hn), ?_⟩
    by_cases h0 : k = 0
    · exact .inl h0
    · rcases h5 with h5 | ⟨b, off, rfl, hb, hc⟩
      · omega
      · refine .inr ⟨b, off, ?_, hb, fun j hj => ?_⟩
        · rw [if_neg (by omega), Option.map_some, Go.WideShapes.add_plain, Nat.zero_mul, Nat.add_zero]
        · rw [hc j (by omega)]
          simp only [List.getD_eq_getElem?_getD, List.getElem?_take, if_pos hj]
theorem list_append_run {ops : Array Oper} {rest : List Oper} {o : Oper} {a : Act} {w : World} {Q : Exit → Act → World → Prop} (hgd : o.guard = none) (s x : Operand) (t : TypeId)
    (hop : o.op = Op.call { callee := Callee.builtin Builtin.append, args := #[s, x], argTypes := #[t, t] }) (v xv v' : Value) (w' : World) (hs : a.eval s = v) (hx : a.eval x = xv)
    (hrun : (Builtin.append_ #[t, t] o.type #[v, xv]).run Tryz.prog w = .ok v' w') (hK : wpList Tryz.prog ops Q rest (a.put o.dst v') w') : wpList Tryz.prog ops Q (o :: rest) a w := by
  refine wpList_plain hgd fun K hk => ?_
  unfold Oper.wp
  simp [execOp, hop, resolve, invoke, builtin, hs, hx, hrun, Result.andThen]
  exact hk _ _ hK
theorem own_empty_s (w : World) : (w.alloc (.cells #[] 9)).ownsRow w.heap.size 9 1 (.slice (some ⟨w.heap.size, 0, none⟩) 0 0) 0 (stRow []) :=
  World.ownsRow_lit w #[] 0 (Nat.le_refl _) (Nat.zero_le _) rfl
end Go.Proofs.YtaonjbkkgeiniaaGreatDoor
