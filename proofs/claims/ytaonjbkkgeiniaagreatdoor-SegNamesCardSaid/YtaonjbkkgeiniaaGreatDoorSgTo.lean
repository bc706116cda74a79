/- A segment that is cut short: what is scanned of it, in letters. -/
import Derived.Test.YtaonjbkkgeiniaaGreatDoorSgBw
import Derived.Test.YtaonjbkkgeiniaaGreatDoorSgAp
namespace Go.Proofs.YtaonjbkkgeiniaaGreatDoor
open Go.RowKit

theorem cut_lt (a : Int) (n : Int) (h0 : 0 < n) (hn : n ≤ 1000000000) : ∃ f : Nat, wrap64 ((IntKind.u64.wrap a).tmod n) = f ∧ (f : Int) < n := by
  have h1 : 0 ≤ IntKind.u64.wrap a := by rw [IntKind.wrap_u64]; omega
  have h2 : (IntKind.u64.wrap a).tmod n = IntKind.u64.wrap a % n := Int.tmod_eq_emod_of_nonneg h1
  have h3 : 0 ≤ IntKind.u64.wrap a % n := Int.emod_nonneg _ (by omega)
  have h4 : IntKind.u64.wrap a % n < n := Int.emod_lt_of_pos _ (by omega)
  rw [h2]
  generalize IntKind.u64.wrap a % n = x at *
  refine ⟨x.toNat, ?_, by omega⟩
  unfold wrap64
  omega
theorem pays_take (z : List ByteArray) (k : Nat) : paysL (z.take k) = (paysL z).take k := by unfold paysL; rw [List.map_take]
/-- where payload i's frame begins -/
def endT (z : List ByteArray) (i : Nat) : Nat := 16 + sizeF (paysL (z.take i))
theorem endT_zero (z : List ByteArray) : endT z 0 = 16 := rfl
theorem endT_succ (z : List ByteArray) (i : Nat) (h : i < z.length) : endT z (i + 1) = endT z i + (16 + (z.getD i ByteArray.empty).size) := by
  unfold endT
  have h' : i < (paysL z).length := by rw [pays_len]; exact h
  rw [pays_take, pays_take, size_take_succ _ _ h', pays_get z i h h', ← Nat.add_assoc]
  rfl
theorem endT_all (z : List ByteArray) (i : Nat) (h : z.length ≤ i) : endT z i = 16 + sizeF (paysL z) := by unfold endT; rw [List.take_of_length_le h]
theorem endT_pos (z : List ByteArray) (i : Nat) : 16 ≤ endT z i := Nat.le_add_right _ _
theorem endT_le (z : List ByteArray) (i : Nat) : endT z i ≤ 16 + sizeF (paysL z) := by
  unfold endT
  rw [pays_take]
  have := size_take_le (paysL z) i
  omega
theorem size_is (n : Int) (w : World) (h : 1 ≤ n ∧ n ≤ 4096) : Calls Tryz.prog 35 #[.int .i64 n] w fun e w' => e = .returned (.int .i64 (16 + n)) ∧ w = w' := by
  have := size_any n w
  unfold szOf at this
  rw [if_pos (show lenOk n from h)] at this
  exact this
theorem sumZ_app (a b : List ByteArray) : sumZ (a ++ b) = sumZ a + sumZ b := by
  induction a with
  | nil => simp [sumZ]
  | cons x a ih => simp only [List.cons_append, sumZ, ih]; omega
theorem sumZ_take_le (z : List ByteArray) (k : Nat) : sumZ (z.take k) ≤ sumZ z := by
  have := sumZ_app (z.take k) (z.drop k)
  rw [List.take_append_drop] at this
  omega
theorem mk_zero {q : Int} {s : ByteArray} (h : mkE q s = 0) : (0 ≤ q ∧ q < 1048576 ∧ 1 ≤ s.size ∧ s.size ≤ 4096) ∧ mkS q s = bs (frm q.toNat s.data.toList) := by
  refine ⟨?_, by unfold mkS; rw [if_pos h]⟩
  unfold mkE at h
  by_cases h1 : q < 0 ∨ 1048576 ≤ q
  · rw [if_pos h1] at h; cases h
  rw [if_neg h1] at h
  by_cases h2 : s.size = 0
  · rw [if_pos h2] at h; cases h
  rw [if_neg h2] at h
  by_cases h3 : 4096 < s.size
  · rw [if_pos h3] at h; cases h
  omega
/-- one frame more -/
theorem seg_snoc {g : Nat} {q : List ByteArray} {S s : ByteArray} (hS : S.data.toList = hdrL g ++ joinF g (paysL q)) (hq : okF g (paysL q)) (h : mkE ((g : Int) + (q.length : Int)) s = 0) :
    (S ++ mkS ((g : Int) + (q.length : Int)) s).data.toList = hdrL g ++ joinF g (paysL (q ++ [s])) ∧ okF g (paysL (q ++ [s])) ∧ (mkS ((g : Int) + (q.length : Int)) s).size = 16 + s.size := by
  obtain ⟨h1, h2⟩ := mk_zero h
  have ep : paysL (q ++ [s]) = paysL q ++ [s.data.toList] := by unfold paysL; rw [List.map_append]; rfl
  refine ⟨?_, ?_, ?_⟩
  · rw [h2, data_app, hS, bs_data, ep, join_snoc, pays_len, List.append_assoc]
  · rw [ep, ok_snoc, pays_len]
    exact ⟨hq, h1⟩
  · rw [h2, size_bs, frm_len]; rfl
theorem seg_size {g : Nat} {q : List ByteArray} {S : ByteArray} (hS : S.data.toList = hdrL g ++ joinF g (paysL q)) : S.size = 16 + sizeF (paysL q) := by
  have : S.data.toList.length = S.size := rfl
  rw [← this, hS, List.length_append, hdr_len, join_len]
theorem pay_ok {g : Int} {z : List ByteArray} (hk : okF g (paysL z)) (i : Nat) (h : i < z.length) : 1 ≤ (z.getD i ByteArray.empty).size ∧ (z.getD i ByteArray.empty).size ≤ 4096 := by
  have h' : i < (paysL z).length := by rw [pays_len]; exact h
  have := ((ok_take_succ g (paysL z) i h').1 (ok_take hk _)).2.2.2
  rw [pays_get z i h h'] at this
  exact this
theorem torn_scan (g : Nat) (z : List ByteArray) (A : ByteArray) (N : Nat) (hg : g ≤ 1048576) (hk : okF g (paysL z)) (hA : A.data.toList = hdrL g ++ joinF g (paysL z)) (hs : A.size ≤ 400000) (h16 : 16 ≤ N) (hN : N ≤ A.size) :
    ∃ (m : Nat) (X : List Value) (b : Bool), m ≤ z.length ∧
      (∀ i, i < m → X[i * 3]? = some (.int .i64 ((g : Int) + i)) ∧ X[i * 3 + 1]? = some (.string (z.getD i ByteArray.empty)) ∧ X[i * 3 + 2]? = some (.int .i64 (endT z i : Nat))) ∧
      (∀ i, i < z.length → (endT z (i + 1) ≤ N ↔ i < m)) ∧ endT z m ≤ N ∧ ((endT z m : Int) == (N : Int)) = b ∧
      (A.extract 0 (endT z m)).data.toList = hdrL g ++ joinF g (paysL (z.take m)) ∧ okF g (paysL (z.take m)) ∧
      ∀ w, Calls Tryz.prog 26 #[.string (A.extract 0 N)] w fun e w' => ∃ oa cap, e = .returned (.tuple #[.agg #[.int .i64 g, .slice oa m cap, .int .i64 (endT z m : Nat), .bool b], .int .i64 0]) ∧
        w'.ownsRow w.heap.size 60 3 (.slice oa m cap) m X ∧ Below w.heap.size w w' := by
  have hc := seg_cut g hg (paysL z) hk N h16
  rw [← hA, ← (show (A.extract 0 N).data.toList = A.data.toList.take N by simp)] at hc
  have hsz : (A.extract 0 N).size = N := by rw [ByteArray.size_extract]; omega
  have hw := whole_le (paysL z) 16 N
  have hi := fun j => whole_iff (paysL z) 16 N j
  rw [pays_len] at hw
  generalize wholeF 16 (paysL z) N = m at *
  have hml : ((paysL z).take m).length = m := by rw [List.length_take, pays_len]; omega
  have hx := fun i (h : i < m) => rowF_get ((paysL z).take m) g 16 i (by rw [hml]; exact h) (ok_take hk m)
  have hend : endT z m ≤ N := by
    cases m with
    | zero => exact h16
    | succ m =>
      have := ((hi m).1 (Nat.lt_succ_self _)).2
      unfold endT
      rw [pays_take]
      exact this
  have hcut : (A.extract 0 (endT z m)).data.toList = hdrL g ++ joinF g (paysL (z.take m)) := by
    have e1 : (A.extract 0 (endT z m)).data.toList = A.data.toList.take (endT z m) := by simp
    have e2 : joinF g (paysL z) = joinF g ((paysL z).take m) ++ joinF (g + ((paysL z).take m).length) ((paysL z).drop m) := by
      conv => lhs; rw [← List.take_append_drop m (paysL z)]
      exact join_app _ _ _
    rw [e1, hA, e2, ← List.append_assoc, List.take_left' (by rw [List.length_append, hdr_len, join_len]; unfold endT; rw [pays_take]), pays_take]
  have hsc := fun w => scan_is (A.extract 0 N) g _ hc (by rw [hsz]; omega) w
  rw [hml, hsz] at hsc
  refine ⟨m, rowF g 16 ((paysL z).take m), decide (16 + sizeF ((paysL z).take m) = N), hw, fun i h => ?_, fun i h => ?_, hend, ?_, hcut, by rw [pays_take]; exact ok_take hk m, ?_⟩
  · obtain ⟨x1, x2, x3⟩ := hx i h
    rw [Nat.mul_comm] at x1 x2 x3
    refine ⟨x1, ?_, ?_⟩
    · rw [x2, List.getElem_take, pays_get z i (by omega)]
      rw [bs_of]
    · rw [x3, List.take_take, Nat.min_eq_left (by omega)]
      unfold endT
      rw [pays_take]
  · have := hi i
    rw [pays_len] at this
    unfold endT
    rw [pays_take]
    constructor
    · intro h2; exact this.2 ⟨h, h2⟩
    · intro h2; exact (this.1 h2).2
  · unfold endT
    rw [pays_take, Bool.eq_iff_iff, beq_iff_eq, decide_eq_true_iff]
    omega
  · unfold endT
    rw [pays_take]
    exact hsc
end Go.Proofs.YtaonjbkkgeiniaaGreatDoor
