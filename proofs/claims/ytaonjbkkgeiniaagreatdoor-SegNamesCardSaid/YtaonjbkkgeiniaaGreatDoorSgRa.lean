/- soukref11: Fits, digits, Name, Named. -/
import Derived.Test.YtaonjbkkgeiniaaGreatDoorSgW
namespace Go.Proofs.YtaonjbkkgeiniaaGreatDoor
open Go.RowKit Go.Shelf Go.Lib

set_option maxRecDepth 20000 in
set_option maxHeartbeats 2000000 in
theorem rfits_any (size n most : Int) (hs : -9223372036854775808 ≤ size ∧ size ≤ 9223372036854775807) (hm : -9223372036854775808 ≤ most ∧ most ≤ 9223372036854775807) (w : World) :
    Calls Tryz.prog 29 #[.int .i64 size, .int .i64 n, .int .i64 most] w fun e w' => e = .returned (.bool (fitB size n most)) ∧ w' = w := by
  by_cases h1 : n < 1
  · have d1 : decide (n < 1) = true := decide_eq_true h1
    have HE := Lib.hid (show fitB size n most = false by unfold fitB; rw [decide_eq_false (by omega)]; rfl)
    clear h1
    go_enter Tryz.func29, Tryz.ntmps29
    go_wp2_with fail
    go_ret
    exact ⟨ret_b HE.out.symm, rfl⟩
  have d1 : decide (n < 1) = false := decide_eq_false h1
  by_cases h2 : 4096 < n
  · have d2 : decide ((4096 : Int) < n) = true := decide_eq_true h2
    have HE := Lib.hid (show fitB size n most = false by unfold fitB; rw [decide_eq_false (by omega)]; rfl)
    clear h1 h2
    go_enter Tryz.func29, Tryz.ntmps29
    go_wp2_with fail
    go_ret
    exact ⟨ret_b HE.out.symm, rfl⟩
  have d2 : decide ((4096 : Int) < n) = false := decide_eq_false h2
  have hF : fitB size n most = (size == 16 || decide (size + 16 + n ≤ most)) := by unfold fitB; rw [decide_eq_true (by omega), Bool.true_and]
  by_cases h3 : size = 16
  · have d3 : (size == 16) = true := by rw [h3]; rfl
    have HE := Lib.hid (show fitB size n most = true by rw [hF, d3]; rfl)
    clear h1 h2 h3 hF
    go_enter Tryz.func29, Tryz.ntmps29
    go_wp2_with fail
    go_ret
    exact ⟨ret_b HE.out.symm, rfl⟩
  have d3 : (size == 16) = false := by rw [beq_eq_false_iff_ne]; exact h3
  rw [d3, Bool.false_or] at hF
  by_cases h4 : size ≤ 0
  · have d4 : decide (size ≤ (0 : Int)) = true := decide_eq_true h4
    have HE := Lib.hid hF
    clear h3 hF
    go_enter Tryz.func29, Tryz.ntmps29
    go_wp2_with fail
    go_ret
    exact ⟨ret_b HE.out.symm, rfl⟩
  have d4 : decide (size ≤ (0 : Int)) = false := decide_eq_false h4
  by_cases h5 : 0 < most
  · have d5 : decide ((0 : Int) < most) = true := decide_eq_true h5
    have HE := Lib.hid (show fitB size n most = decide (size ≤ most - 16 - n) by rw [hF]; exact decide_eq_decide.2 (by omega))
    clear h3 hF h4
    go_enter Tryz.func29, Tryz.ntmps29
    go_wp2_with fail
    go_ret
    exact ⟨ret_b HE.out.symm, rfl⟩
  · have d5 : decide ((0 : Int) < most) = false := decide_eq_false h5
    have HE := Lib.hid (show fitB size n most = false by rw [hF]; exact decide_eq_false (by omega))
    clear h3 hF h4
    go_enter Tryz.func29, Tryz.ntmps29
    go_wp2_with fail
    go_ret
    exact ⟨ret_b HE.out.symm, rfl⟩

theorem fx_front : ∀ (i n : Nat), fx (i + 1) n = UInt8.ofNat (48 + n / 10 ^ i % 10) :: fx i n
  | 0, n => by show [] ++ [UInt8.ofNat (48 + n % 10)] = _; rw [Nat.pow_zero, Nat.div_one]; rfl
  | i + 1, n => by
    show fx (i + 1) (n / 10) ++ [UInt8.ofNat (48 + n % 10)] = UInt8.ofNat (48 + n / 10 ^ (i + 1) % 10) :: (fx i (n / 10) ++ [UInt8.ofNat (48 + n % 10)])
    rw [fx_front i (n / 10), Nat.pow_succ, Nat.mul_comm, ← Nat.div_div_eq_div_mul]
    rfl
theorem conv_dig (c : Nat) (hc : c < 10) (W : World) (h : Nat) (h0 : W.cell? ⟨h, 0, none⟩ = some (.int .u8 (48 + (c : Int)))) :
    (convert 32 9 (.slice (some ⟨h, 0, none⟩) 1 1)).run Tryz.prog W = .ok (.string ⟨#[UInt8.ofNat (48 + c)]⟩) W := by
  refine run_convert_bytes_back _ _ _ 5 _ _ [UInt8.ofNat (48 + c)] Tryz.underlying32 Tryz.underlying5 Tryz.underlying9 ?_
  intro j hj
  obtain rfl : j = 0 := by simpa using hj
  refine h0.trans ?_
  show _ = some (Value.int .u8 ((UInt8.ofNat (48 + c)).toNat : Int))
  rw [dig_nat c hc]
  rfl
set_option maxRecDepth 20000 in
set_option maxHeartbeats 2000000 in
theorem digits_any (n k : Nat) (hn : n ≤ 1000000000000) (hk : k ≤ 12) (w : World) :
    Calls Tryz.prog 56 #[.int .i64 n, .int .i64 k] w fun e w' => e = .returned (.string (bs (fx k n))) ∧ Below w.heap.size w w' := by
  go_enter Tryz.func56, Tryz.ntmps56
  go_wp2_with fail
  go_loopw [0, 5, 6] (fun nv sv iv wr => ∃ i x : Nat, i ≤ k ∧ x = n / 10 ^ i ∧ nv = .int .i64 x ∧ sv = .string (bs (fx i n)) ∧ iv = .int .i64 i ∧ Below w.heap.size w wr) (fun _ _ iv _ => k - (RowKit.intOf iv).toNat)
  case atStart => exact ⟨0, n, Nat.zero_le _, by rw [Nat.pow_zero, Nat.div_one], rfl, rfl, rfl, Below.refl _ _⟩
  case round =>
    obtain ⟨i, x, hi, hx, rfl, rfl, rfl, hb⟩ := hrel
    have HB := Lib.hid hb
    have HX := Lib.hid hx
    have hxn : x ≤ 1000000000000 := by rw [hx]; exact Nat.le_trans (Nat.div_le_self _ _) hn
    clear hb hx
    by_cases hin : i < k
    · obtain ⟨c, hc⟩ : ∃ c, x % 10 = c := ⟨_, rfl⟩
      obtain ⟨q, hq⟩ : ∃ q, x / 10 = q := ⟨_, rfl⟩
      have hcl : c < 10 := by omega
      obtain ⟨y, ey⟩ : ∃ y : ByteArray, ⟨#[UInt8.ofNat (48 + c)]⟩ = y := ⟨_, rfl⟩
      have hcv : ∀ (W : World) (h : Nat), W.cell? ⟨h, 0, none⟩ = some (.int .u8 (48 + (c : Int))) → (convert 32 9 (.slice (some ⟨h, 0, none⟩) 1 1)).run Tryz.prog W = .ok (.string y) W := by rw [← ey]; exact conv_dig c hcl
      have e1 : (x : Int) % 10 = (c : Int) := by omega
      have e2 : (x : Int) / 10 = (q : Int) := by omega
      have e3 : (x : Int).tmod 10 = (c : Int) := by rw [Int.tmod_eq_emod_of_nonneg (by omega)]; exact e1
      have e4 : (x : Int).tdiv 10 = (q : Int) := by rw [Int.tdiv_eq_ediv_of_nonneg (by omega)]; exact e2
      have f1 : IntKind.u8.wrap (48 + (c : Int)) = 48 + (c : Int) := by rw [IntKind.wrap_u8]; omega
      have f2 : IntKind.i64.wrap (48 + (c : Int)) = 48 + (c : Int) := IntWalk.i64_in _ (by omega)
      have f3 : IntKind.i64.wrap (c : Int) = (c : Int) := IntWalk.i64_in _ (by omega)
      have f4 : IntKind.i64.wrap (q : Int) = (q : Int) := IntWalk.i64_in _ (by omega)
      have HN := Lib.hid (show bs (fx (i + 1) n) = y ++ bs (fx i n) ∧ q = n / 10 ^ (i + 1) by
        rw [← ey]
        refine ⟨?_, ?_⟩
        · rw [fx_front, ← HX.out, hc]
          exact ba_ext (by rw [bs_data, data_app, bs_data]; rfl)
        · rw [Nat.pow_succ, ← Nat.div_div_eq_div_mul, ← HX.out, hq])
      have hys : y.size = 1 := by rw [← ey]; rfl
      have hrs : (bs (fx i n)).size = i := by rw [size_bs, fx_len]
      obtain ⟨R, hR⟩ : ∃ R, bs (fx i n) = R := ⟨_, rfl⟩
      rw [hR] at hrs HN ⊢
      have z1 : ¬ 9223372036854775807 < y.size + R.size := by omega
      clear hc hq ey hR hys hrs
      go_wp2_with fail
      refine ⟨⟨i + 1, q, by omega, HN.out.2, rfl, by rw [HN.out.1], val_int (by omega), HB.out.alloc HB.out.size _⟩, ?_⟩
      simp [RowKit.intOf]; omega
    · obtain rfl : i = k := by omega
      go_wp2_with fail
      go_ret
      exact ⟨rfl, HB.out⟩
set_option maxRecDepth 20000 in
set_option maxHeartbeats 2000000 in
theorem rname_any (g n : Int) (w : World) :
    Calls Tryz.prog 24 #[.int .i64 g, .int .i64 n] w fun e w' => e = .returned (.string (nmS g n)) ∧ Below w.heap.size w w' := by
  by_cases hbad : ¬ ((0 ≤ g ∧ g ≤ 99999999) ∧ (0 ≤ n ∧ n ≤ 1048576))
  · have HE := Lib.hid (show nmS g n = ⟨#[]⟩ from if_neg hbad)
    have hd : decide (g < 0) = true ∨ (decide (g < 0) = false ∧ decide ((99999999 : Int) < g) = true) ∨ (decide (g < 0) = false ∧ decide ((99999999 : Int) < g) = false ∧ decide (n < 0) = true) ∨ (decide (g < 0) = false ∧ decide ((99999999 : Int) < g) = false ∧ decide (n < 0) = false ∧ decide ((1048576 : Int) < n) = true) := by
      by_cases h1 : g < 0
      · exact .inl (decide_eq_true h1)
      by_cases h2 : 99999999 < g
      · exact .inr (.inl ⟨decide_eq_false h1, decide_eq_true h2⟩)
      by_cases h3 : n < 0
      · exact .inr (.inr (.inl ⟨decide_eq_false h1, decide_eq_false h2, decide_eq_true h3⟩))
      · exact .inr (.inr (.inr ⟨decide_eq_false h1, decide_eq_false h2, decide_eq_false h3, decide_eq_true (by omega)⟩))
    clear hbad
    rcases hd with d1 | ⟨d1, d2⟩ | ⟨d1, d2, d3⟩ | ⟨d1, d2, d3, d4⟩
    all_goals
      go_enter Tryz.func24, Tryz.ntmps24
      go_wp2_with fail
      go_ret
      exact ⟨by rw [HE.out]; rfl, Below.refl _ _⟩
  · have hok : (0 ≤ g ∧ g ≤ 99999999) ∧ (0 ≤ n ∧ n ≤ 1048576) := Decidable.not_not.1 hbad
    obtain ⟨hg, hn⟩ := hok
    have hE : nmS g n = bs (namL g.toNat n.toNat) := if_pos ⟨hg, hn⟩
    obtain ⟨G, rfl⟩ : ∃ G : Nat, g = G := ⟨g.toNat, by omega⟩
    obtain ⟨M, rfl⟩ : ∃ M : Nat, n = M := ⟨n.toNat, by omega⟩
    rw [Int.toNat_natCast, Int.toNat_natCast] at hE
    have H1 := fun w => digits_any G 8 (by omega) (by omega) w
    have H2 := fun w => digits_any M 10 (by omega) (by omega) w
    have hs1 : (bs (fx 8 G)).size = 8 := by rw [size_bs, fx_len]
    have hs2 : (bs (fx 10 M)).size = 10 := by rw [size_bs, fx_len]
    have hE2 : nmS G M = ⟨#[115]⟩ ++ bs (fx 8 G) ++ ⟨#[45]⟩ ++ bs (fx 10 M) := by
      rw [hE]
      refine ba_ext ?_
      rw [bs_data, data_app, data_app, data_app, bs_data, bs_data]
      unfold namL
      simp
    obtain ⟨x, ex⟩ : ∃ x, bs (fx 8 G) = x := ⟨_, rfl⟩
    obtain ⟨y, ey⟩ : ∃ y, bs (fx 10 M) = y := ⟨_, rfl⟩
    rw [ex] at hs1 hE2 H1
    rw [ey] at hs2 hE2 H2
    have HE := Lib.hid hE2
    have K1 := Lib.hid (show ∀ w, Calls Tryz.prog 56 #[.int .i64 (G : Int), .int .i64 8] w fun e w' => e = .returned (.string x) ∧ Below w.heap.size w w' from H1)
    have K2 := Lib.hid (show ∀ w, Calls Tryz.prog 56 #[.int .i64 (M : Int), .int .i64 10] w fun e w' => e = .returned (.string y) ∧ Below w.heap.size w w' from H2)
    have d2 : decide ((99999999 : Int) < (G : Int)) = false := decide_eq_false (by omega)
    have d4 : decide ((1048576 : Int) < (M : Int)) = false := decide_eq_false (by omega)
    have z1 : ¬ 9223372036854775807 < 1 + x.size := by omega
    have z2 : ¬ 9223372036854775807 < 1 + x.size + 1 := by omega
    have z3 : ¬ 9223372036854775807 < 1 + x.size + 1 + y.size := by omega
    clear hE hE2 H1 H2 ex ey hg hn hs1 hs2 hbad
    go_enter Tryz.func24, Tryz.ntmps24
    go_wp2_with fail
    refine (K1.out _).mono ?_
    rintro e w2 ⟨rfl, hb⟩
    have HB2 := Lib.hid hb
    clear hb
    go_wp2_with fail
    refine (K2.out _).mono ?_
    rintro e w3 ⟨rfl, hb⟩
    have HB3 := Lib.hid (bel_trans HB2.out hb)
    clear hb
    go_wp2_with fail
    go_ret
    exact ⟨by rw [HE.out]; rfl, HB3.out⟩
end Go.Proofs.YtaonjbkkgeiniaaGreatDoor
