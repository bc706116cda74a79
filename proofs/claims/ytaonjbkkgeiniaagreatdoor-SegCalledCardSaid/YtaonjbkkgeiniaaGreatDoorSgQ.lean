/- The order of names is that of first batches. -/
import Derived.Test.YtaonjbkkgeiniaaGreatDoorSgW
namespace Go.Proofs.YtaonjbkkgeiniaaGreatDoor
open Go.RowKit

theorem less_cons (a b : UInt8) (x y : List UInt8) : Op.bytesLess (a :: x) (b :: y) = (decide (a < b) || a == b && Op.bytesLess x y) := rfl
theorem less_app (p : List UInt8) (x y : List UInt8) : Op.bytesLess (p ++ x) (p ++ y) = Op.bytesLess x y := by
  induction p with
  | nil => rfl
  | cons a p ih =>
    rw [List.cons_append, List.cons_append, less_cons, ih, beq_self_eq_true, Bool.true_and]
    have : decide (a < a) = false := decide_eq_false (by rw [UInt8.lt_iff_toNat_lt]; omega)
    rw [this, Bool.false_or]
theorem vl_pow : ∀ (x : List UInt8) (c : Nat), vl c x = c * 10 ^ x.length + vl 0 x
  | [], c => by rw [vl_nil, vl_nil]; simp
  | a :: x, c => by
    rw [vl_cons, vl_cons, vl_pow x (c * 10 + (a.toNat - 48)), vl_pow x (0 * 10 + (a.toNat - 48)), List.length_cons, Nat.pow_succ]
    have e1 : (c * 10 + (a.toNat - 48)) * 10 ^ x.length = c * (10 ^ x.length * 10) + (a.toNat - 48) * 10 ^ x.length := by
      rw [Nat.add_mul, Nat.mul_assoc, Nat.mul_comm 10 (10 ^ x.length)]
    rw [e1, show 0 * 10 + (a.toNat - 48) = a.toNat - 48 by omega, Nat.add_assoc]
theorem less_dig : ∀ (x y : List UInt8), x.length = y.length → (∀ b ∈ x, isD b = true) → (∀ b ∈ y, isD b = true) → Op.bytesLess x y = decide (vl 0 x < vl 0 y)
  | [], [], _, _, _ => rfl
  | [], _ :: _, h, _, _ => by cases h
  | _ :: _, [], h, _, _ => by cases h
  | a :: x, b :: y, h, hx, hy => by
    have hl : x.length = y.length := by simpa using h
    have ih := less_dig x y hl (fun c hc => hx c (List.mem_cons_of_mem _ hc)) (fun c hc => hy c (List.mem_cons_of_mem _ hc))
    have ha := (isD_iff a).1 (hx a (List.mem_cons_self ..))
    have hb := (isD_iff b).1 (hy b (List.mem_cons_self ..))
    have vx := vl_lt x.length x rfl (fun c hc => hx c (List.mem_cons_of_mem _ hc))
    have vy := vl_lt y.length y rfl (fun c hc => hy c (List.mem_cons_of_mem _ hc))
    rw [less_cons, ih, vl_cons, vl_cons, vl_pow x (0 * 10 + (a.toNat - 48)), vl_pow y (0 * 10 + (b.toNat - 48)), ← hl, show 0 * 10 + (a.toNat - 48) = a.toNat - 48 by omega, show 0 * 10 + (b.toNat - 48) = b.toNat - 48 by omega]
    rw [← hl] at vy
    generalize 10 ^ x.length = P at *
    generalize vl 0 x = u at *
    generalize vl 0 y = v at *
    rcases Nat.lt_trichotomy a.toNat b.toNat with h1 | h1 | h1
    · have e1 : decide (a < b) = true := decide_eq_true (by rw [UInt8.lt_iff_toNat_lt]; exact h1)
      have h2 : (a.toNat - 48 + 1) * P ≤ (b.toNat - 48) * P := Nat.mul_le_mul_right P (by omega)
      rw [Nat.add_mul, Nat.one_mul] at h2
      rw [e1, Bool.true_or, decide_eq_true (by omega)]
    · obtain rfl : a = b := UInt8.toNat_inj.1 h1
      have e1 : decide (a < a) = false := decide_eq_false (by rw [UInt8.lt_iff_toNat_lt]; omega)
      rw [e1, beq_self_eq_true, Bool.false_or, Bool.true_and]
      exact decide_eq_decide.2 (by omega)
    · have e1 : decide (a < b) = false := decide_eq_false (by rw [UInt8.lt_iff_toNat_lt]; omega)
      have e2 : (a == b) = false := by rw [beq_eq_false_iff_ne]; intro e; rw [e] at h1; omega
      have h2 : (b.toNat - 48 + 1) * P ≤ (a.toNat - 48) * P := Nat.mul_le_mul_right P (by omega)
      rw [Nat.add_mul, Nat.one_mul] at h2
      rw [e1, e2, Bool.false_or, Bool.false_and, decide_eq_false (by omega)]
theorem nam_less (g a b : Nat) (ha : a ≤ 1048576) (hb : b ≤ 1048576) : Op.bytesLess (namL g a) (namL g b) = decide (a < b) := by
  have p10 : (10 : Nat) ^ 10 = 10000000000 := by decide
  have e : ∀ n, namL g n = (115 :: (fx 8 g ++ [45])) ++ fx 10 n := by intro n; unfold namL; simp
  rw [e a, e b, less_app, less_dig _ _ (by rw [fx_len, fx_len]) (fx_dig 10 a) (fx_dig 10 b), fx_vl 10 a (by omega), fx_vl 10 b (by omega)]
/-- what SegCalled asks of two names -/
theorem called_law (g a b : Int) : (nmS g a = ⟨#[]⟩ ∧ okN (nmS g a).data.toList = false) ∨
    (nmS g a ≠ ⟨#[]⟩ ∧ ndV (nmS g a) = .tuple #[.int .i64 g, .int .i64 a, .bool true] ∧ (nmS g b = ⟨#[]⟩ ∨ (nmS g b ≠ ⟨#[]⟩ ∧ Op.bytesLess (nmS g a).toList (nmS g b).toList = decide (a < b) ∧ ((nmS g a).toList == (nmS g b).toList) = (a == b)))) := by
  by_cases h : (0 ≤ g ∧ g ≤ 99999999) ∧ (0 ≤ a ∧ a ≤ 1048576)
  · right
    obtain ⟨h1, h2⟩ := h
    obtain ⟨G, rfl⟩ : ∃ G : Nat, g = G := ⟨g.toNat, by omega⟩
    obtain ⟨A, rfl⟩ : ∃ A : Nat, a = A := ⟨a.toNat, by omega⟩
    have e1 : nmS G A = bs (namL G A) := by unfold nmS; rw [if_pos ⟨h1, h2⟩]; rfl
    have hne : ∀ n, bs (namL G n) ≠ ⟨#[]⟩ := fun n e => by
      have := congrArg ByteArray.size e
      rw [size_bs, nam_len] at this
      cases this
    obtain ⟨k1, k2, k3⟩ := okN_nam G A (by omega) (by omega)
    refine ⟨by rw [e1]; exact hne A, ?_, ?_⟩
    · unfold ndV
      rw [e1, bs_data, if_pos k1, k2, k3]
    · by_cases h3 : 0 ≤ b ∧ b ≤ 1048576
      · right
        obtain ⟨B, rfl⟩ : ∃ B : Nat, b = B := ⟨b.toNat, by omega⟩
        have e2 : nmS G B = bs (namL G B) := by unfold nmS; rw [if_pos ⟨h1, h3⟩]; rfl
        refine ⟨by rw [e2]; exact hne B, ?_, ?_⟩
        · rw [e1, e2, toList_bs, toList_bs, nam_less G A B (by omega) (by omega)]
          exact decide_eq_decide.2 (by omega)
        · rw [e1, e2, toList_bs, toList_bs, Bool.eq_iff_iff, beq_iff_eq, beq_iff_eq]
          constructor
          · intro e
            have := (nam_inj (by omega) (by omega) (by omega) (by omega) e).2
            omega
          · intro e
            rw [show A = B by omega]
      · left
        unfold nmS
        rw [if_neg (fun h => h3 h.2)]
  · left
    have e1 : nmS g a = ⟨#[]⟩ := by unfold nmS; rw [if_neg h]
    rw [e1]
    exact ⟨rfl, rfl⟩
theorem nmS_size (g n : Int) : (nmS g n).size ≤ 20 := by
  unfold nmS
  split
  · rw [size_bs, nam_len]; omega
  · exact Nat.zero_le _
end Go.Proofs.YtaonjbkkgeiniaaGreatDoor
