/- souklaw03.MoneyTimes. -/
import Derived.Test.YtikjnfghlohjkaaDoorMonAw
import Derived.Test.YtikjnfghlohjkaaDoorMonG
namespace Go.Proofs.YtikjnfghlohjkaaDoor
open Go.RowKit Go.Shelf Go.Lib

/-- Mul, of what it gives -/
def MulG (a b n e : Int) : Prop := ∀ w, Calls Tryd.prog 11 #[.int .i64 a, .int .i64 b] w fun r w' => r = .returned (.tuple #[.int .i64 n, .int .i64 e]) ∧ w' = w
theorem mulG_neg {a b : Int} (ha : -9223372036854775808 ≤ a ∧ a ≤ 9223372036854775807) (hb : -9223372036854775808 ≤ b ∧ b ≤ 9223372036854775807) (h : a < 0 ∨ b < 0) : MulG a b 0 1 := fun w => by
  have := mul_any a b ha hb w
  rw [show mulV a b = 0 from if_pos h, show mulE a b = 1 from if_pos h] at this
  exact this
theorem mulG_far {a b : Int} (ha : -9223372036854775808 ≤ a ∧ a ≤ 9223372036854775807) (hb : -9223372036854775808 ≤ b ∧ b ≤ 9223372036854775807) (h : ¬ (a < 0 ∨ b < 0)) (p : Int) (hp : a * b = p) (hf : 4611686018427387904 < p) : MulG a b 0 41 := fun w => by
  have := mul_any a b ha hb w
  rw [show mulV a b = 0 by unfold mulV; rw [if_neg h, hp, if_pos hf], show mulE a b = 41 by unfold mulE; rw [if_neg h, hp, if_pos hf]] at this
  exact this
theorem mulG_in {a b : Int} (ha : -9223372036854775808 ≤ a ∧ a ≤ 9223372036854775807) (hb : -9223372036854775808 ≤ b ∧ b ≤ 9223372036854775807) (h : ¬ (a < 0 ∨ b < 0)) (p : Int) (hp : a * b = p) (hf : ¬ 4611686018427387904 < p) : MulG a b p 0 := fun w => by
  have := mul_any a b ha hb w
  rw [show mulV a b = p by unfold mulV; rw [if_neg h, hp, if_neg hf], show mulE a b = 0 by unfold mulE; rw [if_neg h, hp, if_neg hf]] at this
  exact this

set_option maxRecDepth 20000 in
set_option maxHeartbeats 2000000 in
/-- the law, of what the products are -/
theorem times_of (a b c n e one g : Int) (w : World) (hR : RngT w) (hP : PowT w)
    (ha : -9223372036854775808 ≤ a ∧ a ≤ 9223372036854775807) (hb : -9223372036854775808 ≤ b ∧ b ≤ 9223372036854775807) (hc : -9223372036854775808 ≤ c ∧ c ≤ 9223372036854775807)
    (k1 : MulG a b n e) (k2 : MulG b a n e) (k3 : MulG a 1 one g) (pa pb p : Bool) (da : decide (a < 0) = pa) (db : decide (b < 0) = pb) (dE : (e == 1) = p) (hpp : p = (pa || pb))
    (hone : 0 ≤ a → a ≤ 4611686018427387904 → isB one g a = true)
    (hrest : 0 ≤ b → 0 ≤ c → b + c ≤ 4611686018427387904 → ∃ all h k i, MulG a (b + c) all h ∧ MulG a c k i ∧ (h = 0 → e = 0 ∧ i = 0 ∧ addE n k = 0 ∧ addV n k = all ∧ -9223372036854775808 ≤ n ∧ n ≤ 9223372036854775807 ∧ -9223372036854775808 ≤ k ∧ k ≤ 9223372036854775807) ∧ (h ≠ 0 → (a < 0 ∨ e ≠ 0 ∨ i ≠ 0 ∨ 4611686018427387904 - k < n) ∧ 0 ≤ k ∧ k ≤ 4611686018427387904)) :
    Calls Tryd.prog 6 #[.int .i64 a, .int .i64 b, .int .i64 c] w fun r w' => r = .returned (.bool true) ∧ Below w.heap.size w w' := by
  have HW := Lib.hid (awake_any w hR hP)
  have K1 := Lib.hid k1
  have K2 := Lib.hid k2
  have K3 := Lib.hid k3
  have HO := Lib.hid hone
  have HRS := Lib.hid hrest
  clear hR hP k1 k2 k3 hone hrest
  have hneq : (p != (pa || pb)) = false := by rw [hpp]; cases (pa || pb) <;> rfl
  have HN := Lib.hid hpp
  go_enter Tryd.func6, Tryd.ntmps6
  go_wp2_with fail
  refine HW.out.mono ?_
  rintro r w1 ⟨rfl, hb1⟩
  have HB := Lib.hid hb1
  clear hb1 HW
  go_wp2_with fail
  refine (K1.out _).mono ?_
  rintro r y' ⟨rfl, rfl⟩
  go_wp2_with fail
  refine (K2.out _).mono ?_
  rintro r y' ⟨rfl, rfl⟩
  go_wp2_with fail
  refine (K3.out _).mono ?_
  rintro r y' ⟨rfl, rfl⟩
  clear K1 K2 K3
  clear hpp
  by_cases q1 : 0 ≤ a ∧ a ≤ 4611686018427387904
  · have hi := is_any one g a
    rw [HO.out q1.1 q1.2] at hi
    have HI1 := Lib.hid hi
    have d1 : decide (0 ≤ a) = true := decide_eq_true q1.1
    have d2 : decide (a ≤ 4611686018427387904) = true := decide_eq_true q1.2
    obtain rfl : pa = false := by rw [← da]; exact decide_eq_false (by omega)
    obtain rfl : p = pb := by have := HN.out; simpa using this
    clear hi HO hneq HN
    cases p
    all_goals
      go_wp2_with fail
      refine (HI1.out _).mono ?_
      rintro r y' ⟨rfl, rfl⟩
      go_wp2_with fail
      all_goals first
        | (go_ret; exact ⟨rfl, HB.out⟩)
        | skip
      all_goals
        have hb0 := of_decide_eq_false db
        obtain ⟨all, h, k, i, m1, m2, f1, f2⟩ := HRS.out (by omega) (by omega) (by omega)
        have M1 := Lib.hid m1
        have M2 := Lib.hid m2
        clear m1 m2 HRS
        refine (M1.out _).mono ?_
        rintro r y' ⟨rfl, rfl⟩
        by_cases hh : h = 0
        · obtain ⟨rfl, rfl, g1, g2, g3⟩ := f1 hh
          subst hh
          clear f2 f1
          have hA := add_any n k (by omega) (by omega)
          rw [g1, g2] at hA
          have HA := Lib.hid hA
          have HI := Lib.hid (is_any all 0 all)
          rw [show isB all 0 all = true by simp [isB]] at HI
          clear hA g1 g2
          go_wp2_with fail
          refine (M2.out _).mono ?_
          rintro r y' ⟨rfl, rfl⟩
          go_wp2_with fail
          refine (HA.out _).mono ?_
          rintro r w3 ⟨rfl, hb3⟩
          have HB3 := Lib.hid (bel_trans HB.out hb3)
          clear hb3
          go_wp2_with fail
          refine (HI.out _).mono ?_
          rintro r y' ⟨rfl, rfl⟩
          go_wp2_with fail
          go_ret
          exact ⟨rfl, HB3.out⟩
        · obtain ⟨f3, f4, f5⟩ := f2 hh
          have dh : (h != 0) = true := by simpa using hh
          have F3 := Lib.hid f3
          clear f1 f2 f3 hh
          go_wp2_with fail
          refine (M2.out _).mono ?_
          rintro r y' ⟨rfl, rfl⟩
          go_wp2_with fail
          all_goals
            go_ret
            exact ⟨by have := F3.out; first | rfl | (congr 2; simp at *; omega), HB.out⟩
  · have HI2 : True := trivial
    clear HO
    have hq : decide (0 ≤ a) = false ∨ (decide (0 ≤ a) = true ∧ decide (a ≤ 4611686018427387904) = false) := by
      by_cases h1 : 0 ≤ a
      · exact .inr ⟨decide_eq_true h1, decide_eq_false (by omega)⟩
      · exact .inl (decide_eq_false h1)
    obtain rfl : p = (pa || pb) := HN.out
    clear HN hneq HI2
    rcases hq with d1 | ⟨d1, d2⟩ <;> cases pa <;> cases pb
    all_goals
      go_wp2_with fail
      all_goals first
        | (go_ret; exact ⟨rfl, HB.out⟩)
        | skip
      all_goals
        have hb0 := of_decide_eq_false db
        obtain ⟨all, h, k, i, m1, m2, f1, f2⟩ := HRS.out (by omega) (by omega) (by omega)
        have M1 := Lib.hid m1
        have M2 := Lib.hid m2
        clear m1 m2 HRS
        refine (M1.out _).mono ?_
        rintro r y' ⟨rfl, rfl⟩
        by_cases hh : h = 0
        · obtain ⟨rfl, rfl, g1, g2, g3⟩ := f1 hh
          subst hh
          clear f2 f1
          have hA := add_any n k (by omega) (by omega)
          rw [g1, g2] at hA
          have HA := Lib.hid hA
          have HI := Lib.hid (is_any all 0 all)
          rw [show isB all 0 all = true by simp [isB]] at HI
          clear hA g1 g2
          go_wp2_with fail
          refine (M2.out _).mono ?_
          rintro r y' ⟨rfl, rfl⟩
          go_wp2_with fail
          refine (HA.out _).mono ?_
          rintro r w3 ⟨rfl, hb3⟩
          have HB3 := Lib.hid (bel_trans HB.out hb3)
          clear hb3
          go_wp2_with fail
          refine (HI.out _).mono ?_
          rintro r y' ⟨rfl, rfl⟩
          go_wp2_with fail
          go_ret
          exact ⟨rfl, HB3.out⟩
        · obtain ⟨f3, f4, f5⟩ := f2 hh
          have dh : (h != 0) = true := by simpa using hh
          have F3 := Lib.hid f3
          clear f1 f2 f3 hh
          go_wp2_with fail
          refine (M2.out _).mono ?_
          rintro r y' ⟨rfl, rfl⟩
          go_wp2_with fail
          all_goals
            go_ret
            exact ⟨by have := F3.out; first | rfl | (congr 2; simp at *; omega), HB.out⟩
theorem mul_bound (a b c : Int) (ha : 0 ≤ a) (hb : 0 ≤ b) (hc : 0 ≤ c) : 0 ≤ a * b ∧ 0 ≤ a * c ∧ a * (b + c) = a * b + a * c := ⟨Int.mul_nonneg ha hb, Int.mul_nonneg ha hc, Int.mul_add _ _ _⟩
theorem toldV_in {t : Int} (h : -4611686018427387904 ≤ t ∧ t ≤ 4611686018427387904) : toldV t = t := if_pos h
theorem toldE_in {t : Int} (h : -4611686018427387904 ≤ t ∧ t ≤ 4611686018427387904) : toldE t = 0 := if_pos h
theorem times_law (a b c : Int) (ha : -9223372036854775808 ≤ a ∧ a ≤ 9223372036854775807) (hb : -9223372036854775808 ≤ b ∧ b ≤ 9223372036854775807) (hc : -9223372036854775808 ≤ c ∧ c ≤ 9223372036854775807) (w : World) (hR : RngT w) (hP : PowT w) :
    Calls Tryd.prog 6 #[.int .i64 a, .int .i64 b, .int .i64 c] w fun r w' => r = .returned (.bool true) ∧ Below w.heap.size w w' := by
  by_cases h1 : a < 0
  · refine times_of a b c 0 1 0 1 w hR hP ha hb hc (mulG_neg ha hb (.inl h1)) (mulG_neg hb ha (.inr h1)) (mulG_neg ha (by omega) (.inl h1)) true (decide (b < 0)) true (decide_eq_true h1) rfl rfl rfl (fun h => by omega) (fun hb0 hc0 hbc => ?_)
    exact ⟨0, 1, 0, 1, mulG_neg ha (by omega) (.inl h1), mulG_neg ha hc (.inl h1), (fun h => by cases h), fun _ => ⟨.inl h1, by omega⟩⟩
  · have hone : ∃ one g, MulG a 1 one g ∧ (0 ≤ a → a ≤ 4611686018427387904 → isB one g a = true) := by
      by_cases hm : 4611686018427387904 < a
      · exact ⟨_, _, mulG_far ha (by omega) (by omega) a (Int.mul_one a) hm, fun _ h => by omega⟩
      · exact ⟨_, _, mulG_in ha (by omega) (by omega) a (Int.mul_one a) hm, fun _ _ => by simp [isB]⟩
    obtain ⟨one, g, k3, ho⟩ := hone
    by_cases h2 : b < 0
    · exact times_of a b c 0 1 one g w hR hP ha hb hc (mulG_neg ha hb (.inr h2)) (mulG_neg hb ha (.inl h2)) k3 false true true (decide_eq_false h1) (decide_eq_true h2) rfl rfl ho (fun hb0 => by omega)
    · have hn : ¬ (a < 0 ∨ b < 0) := by omega
      have hn' : ¬ (b < 0 ∨ a < 0) := by omega
      obtain ⟨p, hp⟩ : ∃ p, a * b = p := ⟨_, rfl⟩
      have hp' : b * a = p := by rw [Int.mul_comm]; exact hp
      have hp0 : 0 ≤ p := by rw [← hp]; exact Int.mul_nonneg (by omega) (by omega)
      by_cases hf : 4611686018427387904 < p
      · refine times_of a b c 0 41 one g w hR hP ha hb hc (mulG_far ha hb hn p hp hf) (mulG_far hb ha hn' p hp' hf) k3 false false false (decide_eq_false h1) (decide_eq_false h2) rfl rfl ho (fun hb0 hc0 hbc => ?_)
        obtain ⟨_, hq0, hs⟩ := mul_bound a b c (by omega) hb0 hc0
        have hnc : ¬ (a < 0 ∨ c < 0) := by omega
        have hnb : ¬ (a < 0 ∨ b + c < 0) := by omega
        obtain ⟨q, hq⟩ : ∃ q, a * c = q := ⟨_, rfl⟩
        rw [hp, hq] at hs
        rw [hq] at hq0
        have hfar : MulG a (b + c) 0 41 := mulG_far ha (by omega) hnb (p + q) hs (by omega)
        by_cases hfq : 4611686018427387904 < q
        · exact ⟨0, 41, 0, 41, hfar, mulG_far ha hc hnc q hq hfq, (fun h => by cases h), fun _ => ⟨.inr (.inl (by decide)), by omega⟩⟩
        · exact ⟨0, 41, q, 0, hfar, mulG_in ha hc hnc q hq hfq, (fun h => by cases h), fun _ => ⟨.inr (.inl (by decide)), by omega⟩⟩
      · refine times_of a b c p 0 one g w hR hP ha hb hc (mulG_in ha hb hn p hp hf) (mulG_in hb ha hn' p hp' hf) k3 false false false (decide_eq_false h1) (decide_eq_false h2) rfl rfl ho (fun hb0 hc0 hbc => ?_)
        obtain ⟨_, hq0, hs⟩ := mul_bound a b c (by omega) hb0 hc0
        have hnc : ¬ (a < 0 ∨ c < 0) := by omega
        have hnb : ¬ (a < 0 ∨ b + c < 0) := by omega
        obtain ⟨q, hq⟩ : ∃ q, a * c = q := ⟨_, rfl⟩
        rw [hp, hq] at hs
        rw [hq] at hq0
        by_cases hfs : 4611686018427387904 < p + q
        · have hfar : MulG a (b + c) 0 41 := mulG_far ha (by omega) hnb (p + q) hs hfs
          by_cases hfq : 4611686018427387904 < q
          · exact ⟨0, 41, 0, 41, hfar, mulG_far ha hc hnc q hq hfq, (fun h => by cases h), fun _ => ⟨.inr (.inr (.inl (by decide))), by omega⟩⟩
          · exact ⟨0, 41, q, 0, hfar, mulG_in ha hc hnc q hq hfq, (fun h => by cases h), fun _ => ⟨.inr (.inr (.inr (by omega))), by omega⟩⟩
        · exact ⟨p + q, 0, q, 0, mulG_in ha (by omega) hnb (p + q) hs hfs, mulG_in ha hc hnc q hq (by omega), (fun _ => ⟨rfl, rfl, toldE_in (by omega), toldV_in (by omega), by omega, by omega, by omega, by omega⟩), fun h => absurd rfl h⟩
end Go.Proofs.YtikjnfghlohjkaaDoor
