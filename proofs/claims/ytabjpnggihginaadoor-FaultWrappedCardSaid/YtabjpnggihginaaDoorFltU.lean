/- The table internal/strconv.uint64pow10, as much as a world's shape tells of it: twenty words. The frame for a walk that wants the world's shape beside the row's condition. -/
import Derived.Test.YtabjpnggihginaaDoorFltR
import Derived.Test.YtabjpnggihginaaDoorFltS
import Derived.Test.YtabjpnggihginaaDoorFltWrapW
import Derived.HandedShaped
import Derived.Handed
import Derived.SizedLaws
namespace Go
/-- 'returnsInHanded_of_change_and' with the world's shape handed on to the contract -/
theorem handed_and_shaped {H : Type} {enc : TypeId × Value → H} {a : Assume} {C : Checked} {os : Os} {f : FuncId} {fn : Func} {s : ChangeSpec} {conds : List PathCond} {apart fresh handsOn again : Bool} {X : World → Array Value → Prop}
    (hX : ∀ (w w' : World) (args : Array Value), w.heap = w'.heap → X w args → X w' args)
    (own : ownKnob C.prog.godebug = none) (started : os.Started) (noInit : C.prog.inits.idxOf? f = none) (hfn : C.prog.funcs[f]? = some fn)
    (witness : ∃ (w : World) (tape : Tape) (i : Input), w.os = os ∧ (w.forCall tape i).Shaped C.prog ∧ i.vars = [] ∧ Input.okWide C.prog (w.forCall tape i) .any w.heap.size f i ∧
      ((s.pre enc C.prog fn conds apart (w.forCall tape i).memory i.args ∧ X (w.forCall tape i).memory i.args) ∧ sizedMet enc C.prog fn (OpenSpec.ofChange s) apart (w.forCall tape i).memory i.args) ∧ a.holds C.prog (lone (Frame.enter C.prog f i.args .normal) [] (w.forCall tape i)))
    (contract : ∀ (W : World) (base : Nat) (args : Array Value) (ds gs : List (DataW H)) (before : List MemPlace),
      (∀ (j : Nat) t v, fn.params[j]? = some t → args[j]? = some v → Value.okWide C.prog W .any base t v) →
      DataW.Whole enc C.prog fn.params.toList s.vars apart W args.toList ds gs before →
      conds.all (PathCond.test C.prog ⟨fn.params.toList, ds, s.plain.varTypes C.prog, gs⟩) = true →
      (DataW.weightsEach C.prog (fn.params.toList ++ s.plain.varTypes C.prog) (ds ++ gs)).all (· ≤ reachBytes) = true → X W args → W.ShapedOpen C.prog →
      a.holds C.prog (lone (Frame.enter C.prog f args .normal) [] W) →
      Calls C.prog f args W fun e W' => ∃ v, e = .returned v ∧ s.post enc C.prog fn apart fresh handsOn again W args v W') :
    ReturnsInHanded a C os f .any (fun w args => (s.pre enc C.prog fn conds apart w args ∧ X w args) ∧ sizedMet enc C.prog fn (OpenSpec.ofChange s) apart w args) (s.post enc C.prog fn apart fresh handsOn again) := by
  refine returnsInHanded_of_calls own started noInit witness ?_
  intro w tape i _ hsh _ hok hpre hholds
  obtain ⟨_, _, _, fn', hfn', _, _, _, _, hval⟩ := hok
  have e : fn' = fn := Option.some.inj (hfn'.symm.trans hfn)
  subst e
  obtain ⟨⟨⟨ds, gs, before, hw, hc⟩, hx⟩, hz⟩ := hpre
  have hw' := DataW.Whole.of_heap (w' := w.forCall tape i) (by rfl) hw
  refine (contract (w.forCall tape i) w.heap.size i.args ds gs before hval hw' hc (hz.weights hw) (hX _ _ _ (by rfl) hx) hsh hholds).mono fun e W' ⟨v, he, hp⟩ => ?_
  subst he
  exact ChangeSpec.post_blind hp
end Go
namespace Go.Proofs.YtabjpnggihginaaDoor
open Go.RowKit Go.Shelf Go.Sort Go.Lib

set_option maxRecDepth 100000 in
theorem tabA_of_shaped {w : World} (h : w.ShapedOpen Tryd.prog) : ∃ T, TabA w T := by
  obtain ⟨cs, hh, hs, hr⟩ := h.1 2 (Array.replicate 20 (.int .u64 0)) 109 (of_decide_eq_true (by kernel_rfl)) (by kernel_rfl)
  obtain ⟨ts, hts, _, hall⟩ := hr (by kernel_rfl)
  have hc : Tryd.prog.cellTypes Tryd.prog.depth 109 = some (List.replicate 20 102) := by kernel_rfl
  rw [hc] at hts
  cases hts
  have hz : cs.size = 20 := by rw [hs]; rfl
  have each : ∀ j, j < 20 → ∃ n : Nat, w.cell? ⟨2, j, none⟩ = some (.int .u64 (n : Int)) := by
    intro j hj
    have h1 : j < cs.size := by omega
    obtain ⟨u, hu', hok⟩ := hall j cs[j] (by simp [h1])
    have hu2 : u = 102 := by
      rw [List.length_replicate, Nat.mod_eq_of_lt hj, List.getElem?_replicate, if_pos hj] at hu'
      exact (Option.some.inj hu').symm
    subst hu2
    have hcell : w.cell? ⟨2, j, none⟩ = some cs[j] := by unfold World.cell?; simp only [hh]; exact Array.getElem?_eq_getElem h1
    rw [hcell]
    clear hcell hc hall hh hs hr hu'
    unfold Cell.ok at hok
    rw [Tryd.underlying102] at hok
    generalize cs[j] = v at hok ⊢
    cases v <;> try exact hok.elim
    case int k' n =>
      obtain ⟨rfl, hn⟩ := hok
      have h0 : (0 : Int) ≤ n := hn.1
      exact ⟨n.toNat, by rw [Int.toNat_of_nonneg h0]⟩
  exact ⟨fun j => if hj : j < 20 then (each j hj).choose else 0, fun j hj => by dsimp only; rw [dif_pos hj]; exact (each j hj).choose_spec⟩

/-- whatever the table: FormatInt tells some text, the same each time, of every int64 -/
theorem fmtS_tabA {w : World} {T : Nat → Nat} (h : TabA w T) : FmtS w (fmF T) (fun n => -9223372036854775808 ≤ n ∧ n ≤ 9223372036854775807) := by
  refine ⟨fun n hn => ⟨fmF_size T n hn.1 hn.2, fun w' hb => fmt_tabA T n hn.1 hn.2 w' (h.keep hb)⟩, ⟨by omega, by omega⟩, ⟨by omega, by omega⟩, ?_, ?_⟩
  · unfold fmF
    rw [if_pos (by omega), show (44 : Int).toNat = 44 from rfl, Lib.decDigits_two (by omega) (by omega)]
    rfl
  · unfold fmF
    rw [if_pos (by omega), show (7 : Int).toNat = 7 from rfl, Lib.decDigits_one (by omega)]
    rfl

theorem wrapped_any (a : Option Addr) (len cap : Nat) (z : List Wr) (n m : Int) (hn : -9223372036854775808 ≤ n ∧ n ≤ 9223372036854775807) (w : World) (hS : w.ShapedOpen Tryd.prog) (hT : ErrT w) (h : WrsIn w a len cap z) :
    Calls Tryd.prog 7 #[.slice a len cap, .int .i64 n, .int .i64 m] w fun e w' => e = .returned (.bool true) ∧ Below w.heap.size w w' := by
  obtain ⟨T, hTab⟩ := tabA_of_shaped hS
  exact wrapped_law _ _ (fun _ h => h) a len cap z n m hn w (fmtS_tabA hTab) hT h
end Go.Proofs.YtabjpnggihginaaDoor
