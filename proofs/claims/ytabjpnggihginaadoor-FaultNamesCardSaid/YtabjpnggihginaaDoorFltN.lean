/- The array fault.names, out of FaultNames' condition. -/
import Derived.Test.YtabjpnggihginaaDoorFltM
import Derived.Test.YtabjpnggihginaaDoorFltO
import Derived.Lib.LaidTab
import Derived.Stop.LaidErr
namespace Go.Proofs.YtabjpnggihginaaDoor
open Go.RowKit Go.Deep Go.ChangeShapes Go.WideShapes

theorem cells_of_strs {H : Type} {enc : TypeId × Value → H} {P : Program} {w : World} {base : Nat} {sp : Nat → Bool} {held : Bool} {fuel : Nat} {t e : TypeId} {n : Nat} {cs : List Value} {zs : List (List UInt8)} {p : List MemPlace}
    (ht : P.underlying t = some (.array n e)) (he : P.underlying e = some .string) (hce : P.cellsOf e = 1) (hct : P.cellsOf t = n)
    (h : DataW.trod enc P w base sp held fuel t cs = some (.agg (zs.map fun z => .lit (.string z)), p)) : cs = zs.map fun z => Value.string ⟨z.toArray⟩ := by
  cases fuel with
  | zero => simp [DataW.trod] at h
  | succ fuel =>
    simp only [DataW.trod, ht, hce, hct, Nat.mul_one] at h
    split at h
    · rename_i hl
      obtain ⟨xs, hm, hx⟩ := Option.map_eq_some_iff.1 h
      have hxs : xs.map (·.1) = zs.map fun z => (DataW.lit (.string z) : DataW H) := by
        have := congrArg Prod.fst hx
        simpa using this
      have hxl : xs.length = n := by simpa using Lib.mapM_length hm
      have hzl : zs.length = n := by
        have := congrArg List.length hxs
        simp at this
        omega
      apply List.ext_getElem?
      intro i
      by_cases hi : i < n
      · obtain ⟨b, hb, hf⟩ := Lib.mapM_at hm i i (by simp [hi])
        obtain ⟨z, hc, rfl, _⟩ := DataW.trod_string he hf
        have h1 : cs[i]? = some (.string z) := by
          have := congrArg (·[0]?) hc
          simpa [List.getElem?_take, List.getElem?_drop] using this
        have h2 : (xs.map (·.1))[i]? = some (DataW.lit (.string z.data.toList) : DataW H) := by simp [hb]
        rw [hxs] at h2
        simp only [List.getElem?_map, Option.map_eq_some_iff, DataW.lit.injEq, Lit.string.injEq] at h2
        obtain ⟨z', hz', rfl⟩ := h2
        simp [h1, hz']
      · rw [List.getElem?_eq_none (by omega), List.getElem?_eq_none (by simp; omega)]
    · cases h
theorem nms_of_laid {W : World} (h : laidMetH Tryd.prog Rows.faultNamesRow.laid W) : NmsT W := by
  have h1 : laidMet Tryd.prog [("souk/fault.names", Rows.laid_souk_fault_names)] W :=
    (show laidMet Tryd.prog [("souk/fault.names", Rows.laid_souk_fault_names)] W ∧ handlesMet Tryd.prog [("errors.errorType", Rows.laid_errors_errorType)] W from h).1
  obtain ⟨ps, ⟨g', t', cs, fuel, p, q, hg', ht', hvar, hd, _, _⟩, _⟩ := h1
  obtain rfl : 0 = g' := Option.some.inj ((show Tryd.prog.globalNamed "souk/fault.names" = some 0 by kernel_rfl).symm.trans hg')
  obtain rfl : 61 = t' := Option.some.inj ((show (Tryd.prog.globals[0]?).map (·.type) = some 61 by kernel_rfl).symm.trans ht')
  have e1 : (Rows.laid_souk_fault_names : DataW Unit) = .agg (([0, 1, 2, 3, 4].map fun c => (nmOf c).data.toList).map fun z => .lit (.string z)) := by kernel_rfl
  rw [e1] at hd
  have e2 := cells_of_strs Tryd.underlying61 Tryd.underlying9 (by kernel_rfl) (by kernel_rfl) hd
  intro c hc
  have h3 := World.var?_cell hg' hvar c
  rw [h3, ← Array.getElem?_toList, e2]
  match c, hc with
  | 0, _ => rfl
  | 1, _ => rfl
  | 2, _ => rfl
  | 3, _ => rfl
  | 4, _ => rfl
end Go.Proofs.YtabjpnggihginaaDoor
