/- souklaw03.MoneyRow: its walk. -/
import Derived.Test.YtikjnfghlohjkaaDoorMonInts
import Derived.Test.YtikjnfghlohjkaaDoorMonRowL
import Derived.Test.YtikjnfghlohjkaaDoorMonAw
import Derived.Test.YtikjnfghlohjkaaDoorMonFairW
namespace Go.Proofs.YtikjnfghlohjkaaDoor
open Go.RowKit

theorem one_cell (w : World) (n : Int) (t : TypeId) : ∀ (j : Nat) u, [Value.int .i64 n][j]? = some u → (w.alloc (.cells #[.int .i64 n] t)).cell? ((⟨w.heap.size, 0, none⟩ : Addr).add j) = some u := by
  intro j u hj
  rw [Go.WideShapes.add_plain, World.cell?_alloc_new, Nat.zero_add]
  simpa using hj
theorem one_one (n : Int) : ∀ u ∈ [Value.int .i64 n], u.oneCell' = true := by
  intro u hu
  rw [List.mem_singleton.1 hu]; rfl
theorem row_step {w : World} {B len p : Nat} {v : Value} {l : List Int} {n : Int} (hp : p + 1 ≤ len) (hl : l.length = len) (hn : l.getD p 0 = n) (h : w.ownsRow B 2 1 v (len - (p + 1) + 1) (ivs (l.drop (p + 1)).reverse ++ [.int .i64 n])) :
    w.ownsRow B 2 1 v (len - p) (ivs (l.drop p).reverse) := by
  have hlt : p < l.length := by omega
  have e1 : ivs (l.drop p).reverse = ivs (l.drop (p + 1)).reverse ++ [.int .i64 n] := by
    rw [List.drop_eq_getElem_cons hlt, List.reverse_cons, ivs_app]
    rw [List.getD_eq_getElem?_getD, List.getElem?_eq_getElem hlt] at hn
    rw [← hn]; rfl
  rw [e1, show len - p = len - (p + 1) + 1 by omega]
  exact h
theorem row_below {w wr w2 : World} {v : Value} {n : Nat} {xs : List Value} {t : TypeId} {c : Array Value} (hb : Below w.heap.size w wr) (ho : wr.ownsRow w.heap.size t 1 v n xs) (hg : (wr.alloc (.cells c t)).grownBy w2 v.ownBlock) : Below w.heap.size w w2 :=
  (hb.alloc hb.size _).grown hg (by have := hb.size; simp; omega) (fun k hk => (ho.lt k hk).1)

theorem far_ways (a : Int) : (decide ((4611686018427387904 : Int) < a) = true ∧ True ∧ 4611686018427387904 < a) ∨ (decide ((4611686018427387904 : Int) < a) = false ∧ decide (a < -4611686018427387904) = true ∧ True ∧ a < -4611686018427387904) ∨ (decide ((4611686018427387904 : Int) < a) = false ∧ decide (a < -4611686018427387904) = false ∧ (-4611686018427387904 ≤ a ∧ a ≤ 4611686018427387904)) := by
  by_cases h1 : 4611686018427387904 < a
  · exact .inl ⟨decide_eq_true h1, trivial, h1⟩
  · by_cases h2 : a < -4611686018427387904
    · exact .inr (.inl ⟨decide_eq_false h1, decide_eq_true h2, trivial, h2⟩)
    · exact .inr (.inr ⟨decide_eq_false h1, decide_eq_false h2, by omega, by omega⟩)
theorem told_far {a : Int} (h : 4611686018427387904 < a ∨ a < -4611686018427387904) : toldV a = 0 ∧ toldE a = 41 := ⟨if_neg (by omega), if_neg (by omega)⟩
theorem told_near {a : Int} (h : -4611686018427387904 ≤ a ∧ a ≤ 4611686018427387904) : toldV a = a ∧ toldE a = 0 := ⟨if_pos h, if_pos h⟩
theorem sum_is {S V E : Int} (hV : toldV S = V) (hE : toldE S = E) (o : Option Addr) (n c : Nat) (l : List Int) (w : World) (h : IntsIn .i64 w o n c l) (e : sm l = S) :
    Calls Tryd.prog 24 #[.slice o n c] w fun r w' => r = .returned (.tuple #[.int .i64 V, .int .i64 E]) ∧ Below w.heap.size w w' := by
  have := sum_any o n c l w h
  rw [e, hV, hE] at this
  exact this
theorem add_is {a b v e : Int} (ha : -9223372036854775808 ≤ a ∧ a ≤ 9223372036854775807) (hb : -9223372036854775808 ≤ b ∧ b ≤ 9223372036854775807) (hv : toldV (a + b) = v) (he : toldE (a + b) = e) (w : World) :
    Calls Tryd.prog 21 #[.int .i64 a, .int .i64 b] w fun r w' => r = .returned (.tuple #[.int .i64 v, .int .i64 e]) ∧ Below w.heap.size w w' := by
  have := add_any a b ha hb w
  unfold addV addE at this
  rw [hv, he] at this
  exact this
theorem sub_is {a b v e : Int} (ha : -9223372036854775808 ≤ a ∧ a ≤ 9223372036854775807) (hb : -9223372036854775808 ≤ b ∧ b ≤ 9223372036854775807) (hv : toldV (a - b) = v) (he : toldE (a - b) = e) (w : World) :
    Calls Tryd.prog 23 #[.int .i64 a, .int .i64 b] w fun r w' => r = .returned (.tuple #[.int .i64 v, .int .i64 e]) ∧ Below w.heap.size w w' := by
  have := sub_any a b ha hb w
  unfold subV subE at this
  rw [hv, he] at this
  exact this
set_option maxRecDepth 20000 in
set_option maxHeartbeats 16000000 in
theorem row_law (oa : Option Addr) (len cap : Nat) (l : List Int) (ob : Option Addr) (len2 cap2 : Nat) (m : List Int) (fr a b : Int) (ha : -9223372036854775808 ≤ a ∧ a ≤ 9223372036854775807) (hb : -9223372036854775808 ≤ b ∧ b ≤ 9223372036854775807) (w : World)
    (hl : IntsIn .i64 w oa len cap l) (hm : IntsIn .i64 w ob len2 cap2 m) (hR : RngT w) (hP : PowT w) :
    Calls Tryd.prog 10 #[.slice oa len cap, .slice ob len2 cap2, .int .i64 fr, .int .i64 a, .int .i64 b] w fun r w' => r = .returned (.bool true) ∧ Below w.heap.size w w' := by
  have HR := Lib.hid hR
  have HP := Lib.hid hP
  have HL := Lib.hid hl
  have HM := Lib.hid hm
  have HA := Lib.hid ha
  have HBb := Lib.hid hb
  clear hR hP hl hm ha hb
  by_cases h1 : 1000 < len
  · have d1 : decide ((1000 : Int) < (len : Int)) = true := decide_eq_true (by omega)
    clear h1
    go_enter Tryd.func10, Tryd.ntmps10
    go_wp2_with fail
    refine (awake_any _ HR.out HP.out).mono ?_
    rintro r w1 ⟨rfl, hb1⟩
    have HB1 := Lib.hid hb1
    clear hb1
    go_wp2_with fail
    go_ret
    exact ⟨rfl, HB1.out⟩
  have d1 : decide ((1000 : Int) < (len : Int)) = false := decide_eq_false (by omega)
  by_cases h2 : 1000 < len2
  · have d2 : decide ((1000 : Int) < (len2 : Int)) = true := decide_eq_true (by omega)
    clear h2 h1
    go_enter Tryd.func10, Tryd.ntmps10
    go_wp2_with fail
    refine (awake_any _ HR.out HP.out).mono ?_
    rintro r w1 ⟨rfl, hb1⟩
    have HB1 := Lib.hid hb1
    clear hb1
    go_wp2_with fail
    go_ret
    exact ⟨rfl, HB1.out⟩
  have d2 : decide ((1000 : Int) < (len2 : Int)) = false := decide_eq_false (by omega)
  have hlen : l.length = len := HL.out.1
  have HLEN := Lib.hid hlen
  clear hlen
  have hwl : ∀ x ∈ l, (Lit.int .i64 x).wf = true := HL.out.2.2.2.1
  have hwm : ∀ x ∈ m, (Lit.int .i64 x).wf = true := HM.out.2.2.2.1
  have HWL := Lib.hid hwl
  have HWM := Lib.hid hwm
  clear hwl hwm
  obtain ⟨V, E, hV, hE⟩ : ∃ V E, toldV (sm l) = V ∧ toldE (sm l) = E := ⟨_, _, rfl, rfl⟩
  obtain ⟨Q, H, hQ, hH⟩ : ∃ V E, toldV (sm m) = V ∧ toldE (sm m) = E := ⟨_, _, rfl, rfl⟩
  obtain ⟨A, I, hA, hI⟩ : ∃ V E, toldV (sm l + sm m) = V ∧ toldE (sm l + sm m) = E := ⟨_, _, rfl, rfl⟩
  obtain ⟨C, J, hC, hJ⟩ : ∃ V E, toldV (a + b) = V ∧ toldE (a + b) = E := ⟨_, _, rfl, rfl⟩
  have wl := told_ways (sm l)
  have wm := told_ways (sm m)
  have wc := told_ways (a + b)
  rw [hV, hE] at wl
  rw [hQ, hH] at wm
  rw [hC, hJ] at wc
  have WL := Lib.hid wl
  have WM := Lib.hid wm
  have WC := Lib.hid wc
  have HV := Lib.hid (⟨hV, hE⟩ : toldV (sm l) = V ∧ toldE (sm l) = E)
  have HQ := Lib.hid (⟨hQ, hH⟩ : toldV (sm m) = Q ∧ toldE (sm m) = H)
  have HAI := Lib.hid (⟨hA, hI⟩ : toldV (sm l + sm m) = A ∧ toldE (sm l + sm m) = I)
  have HC := Lib.hid (⟨hC, hJ⟩ : toldV (a + b) = C ∧ toldE (a + b) = J)
  clear hV hE hQ hH hA hI hC hJ wl wm wc
  have hx : maxLen = 9223372036854775807 := by decide
  obtain ⟨U, hU⟩ : ∃ U : Nat, IntKind.u64.wrap fr = (U : Int) := ⟨(IntKind.u64.wrap fr).toNat, by have : 0 ≤ IntKind.u64.wrap fr := by rw [IntKind.wrap_u64]; omega
                                                                                                  omega⟩
  have hmain : ∃ k : Nat, k ≤ len ∧ ((len = 0 ∧ k = 0) ∨ (0 < len ∧ U % len = k)) := by
    by_cases h : len = 0
    · exact ⟨0, by omega, .inl ⟨h, rfl⟩⟩
    · exact ⟨U % len, Nat.le_of_lt (Nat.mod_lt _ (by omega)), .inr ⟨by omega, rfl⟩⟩
  obtain ⟨k, hk, hk2⟩ := hmain
  obtain ⟨i0, hi, hz0, hz1, hz2⟩ := info_parts infoI
  have HI := Lib.hid (⟨hi, hz0, hz1, hz2⟩ : Tryd.prog.info? 2 = some i0 ∧ i0.zero = some (Value.int .i64 0) ∧ i0.size = 1 ∧ i0.bytes = 8)
  clear hi hz0 hz1 hz2
  rcases hk2 with ⟨h0, hk0⟩ | ⟨h0, hk0⟩
  · have d3 : ¬ 0 < len := by omega
    have HKZ := Lib.hid (show (k : Int) = 0 by omega)
    clear h0 hk0 hU
    go_enter Tryd.func10, Tryd.ntmps10
    go_wp2_with fail
    refine (awake_any _ HR.out HP.out).mono ?_
    rintro r w1 ⟨rfl, hb1⟩
    have HB1 := Lib.hid hb1
    clear hb1
    go_wp2_with fail
    go_loopw [12, 13] (fun vv cv wr => ∃ p : Nat, p ≤ len ∧ cv = .int .i64 ((p : Int) - 1) ∧ wr.ownsRow w1.heap.size 2 1 vv (len - p) (ivs (l.drop p).reverse) ∧ Below w1.heap.size w1 wr) (fun _ cv _ => (intOf cv + 1).toNat)
    case atStart => exact ⟨len, Nat.le_refl _, rfl, by rw [Nat.sub_self, List.drop_of_length_le (by rw [HLEN.out]; exact Nat.le_refl _)]; exact World.ownsRow_nil _ _ _ _, Below.refl _ _⟩
    case round =>
      obtain ⟨p, hp, rfl, ho, hb⟩ := hrel
      have HO := Lib.hid ho
      have HB := Lib.hid hb
      clear ho hb
      cases p with
      | succ p =>
        omega
      | zero =>
        obtain ⟨oc, cc, rfl, ht⟩ := ints_of_own (by have := HO.out; simp only [Nat.sub_zero, List.drop_zero] at this; exact this) (fun x hx => HWL.out x (List.mem_reverse.1 hx))
        have HTI := Lib.hid ht
        have HB2 := Lib.hid (bel_trans HB1.out HB.out)
        clear ht HO HB
        go_wp2_with fail
        refine (sum_is HV.out.1 HV.out.2 oa len cap l _ (ints_keep HL.out HB2.out) rfl).mono ?_
        rintro r w2 ⟨rfl, hb⟩
        have HB3 := Lib.hid (bel_trans HB2.out hb)
        have HTI2 := Lib.hid (ints_keep HTI.out hb)
        clear hb HTI
        obtain ⟨o1, hs1, q1⟩ := slice_from (ints_keep HL.out HB3.out) k hk
        obtain ⟨o2, hs2, q2⟩ := slice_to (ints_keep HL.out HB3.out) k hk
        rw [HKZ.out] at hs1 hs2
        have HQ1 := Lib.hid q1
        obtain ⟨v1, W1, W2, o3, c3, r1, r2, q3, bb⟩ := two_app 36 _ (own_empty w2).drew ((Below.refl _ _).alloc (Nat.le_refl _) _).drew q1 q2 len (by omega) (by omega)
        have R1 := Lib.hid r1
        have R2 := Lib.hid r2
        have Q3 := Lib.hid q3
        have HBB := Lib.hid bb
        clear r1 r2 q3 bb
        have HQ2 := Lib.hid q2
        clear q1 q2
        go_wp2_with fail
        refine wp_region_noPanic ?_
        refine wp_region_held_drew (S := fun _ => True) (by kernel_rfl) trivial (fun hHeld => ?_)
        refine wpAnyH_take (i := 1) (v := .slice oa len cap) rfl (by kernel_rfl) (by kernel_rfl) (by kernel_rfl) (fun _ _ _ h => h) (Or.inl ⟨by rfl, fun w' _ => by go_simp⟩) hHeld ?_
        refine wpAnyH_take (i := 2) (v := .int .i64 0) rfl (by kernel_rfl) (by kernel_rfl) (by kernel_rfl) (fun _ _ _ h => h) (Or.inl ⟨by rfl, fun w' _ => by go_simp⟩) hHeld ?_
        refine wpAnyH_take (i := 3) (v := .slice o1 (len - k) (cap - k)) rfl (by kernel_rfl) (by kernel_rfl) (by kernel_rfl) (fun _ _ _ h => h) (Or.inl ⟨by rfl, fun w' _ => by go_simp⟩) hHeld ?_
        refine wpAnyH_take (i := 5) (v := .slice oa len cap) rfl (by kernel_rfl) (by kernel_rfl) (by kernel_rfl) (fun _ _ _ h => h) (Or.inl ⟨by rfl, fun w' _ => by go_simp⟩) hHeld ?_
        refine wpAnyH_take (i := 6) (v := .int .i64 0) rfl (by kernel_rfl) (by kernel_rfl) (by kernel_rfl) (fun _ _ _ h => h) (Or.inl ⟨by rfl, fun w' _ => by go_simp⟩) hHeld ?_
        refine wpAnyH_take (i := 7) (v := .slice o2 k cap) rfl (by kernel_rfl) (by kernel_rfl) (by kernel_rfl) (fun _ _ _ h => h) (Or.inl ⟨by rfl, fun w' _ => by go_simp⟩) hHeld ?_
        refine wpAnyH_ready (rs := [0]) (by kernel_rfl) (by simp) ?_
        refine AllReadyH.cons rfl (fun K hK => ?_) AllReadyH.nil
        go_simp
        refine hK.out _ _ trivial (fun hHeld => ?_)
        clear hK K
        refine wpAnyH_ready (rs := [4]) (by kernel_rfl) (by simp) ?_
        refine AllReadyH.cons rfl (fun K hK => ?_) AllReadyH.nil
        refine step_append_run (by rfl) (.tmp 75) (.tmp 78) 36 (by rfl) _ _ _ _ (by rfl) (by rfl) R1.out ?_
        refine hK.out _ _ trivial (fun hHeld => ?_)
        clear hK K
        refine wpAnyH_ready (rs := [8]) (by kernel_rfl) (by simp) ?_
        refine AllReadyH.cons rfl (fun K hK => ?_) AllReadyH.nil
        refine step_append_run (by rfl) (.tmp 79) (.tmp 82) 36 (by rfl) _ _ _ _ (by rfl) (by rfl) R2.out ?_
        refine hK.out _ _ trivial (fun hHeld => ?_)
        clear hK K
        refine wpAnyH_ready (rs := [9]) (by kernel_rfl) (by simp) ?_
        refine AllReadyH.cons rfl (fun K hK => ?_) AllReadyH.nil
        go_simp
        go_at_call 24
        with_reducible refine (sum_is HV.out.1 HV.out.2 o3 len c3 _ _ Q3.out (sm_turn l k)).mono ?_
        rintro r w3 ⟨rfl, hb⟩
        have HB4 := Lib.hid (bel_trans HBB.out hb)
        clear hb
        refine hK.out _ _ trivial (fun hHeld => ?_)
        clear hK K
        refine wpAnyH_take (i := 10) (v := .tuple #[.int .i64 V, .int .i64 E]) rfl (by kernel_rfl) (by kernel_rfl) (by kernel_rfl) (fun _ _ _ h => h) (Or.inl ⟨by rfl, fun w' _ => by go_simp⟩) hHeld ?_
        refine wpAnyH_take (i := 11) (v := .int .i64 V) rfl (by kernel_rfl) (by kernel_rfl) (by kernel_rfl) (fun _ _ _ h => h) (Or.inl ⟨by rfl, fun w' _ => by go_simp⟩) hHeld ?_
        refine wpAnyH_take (i := 12) (v := .int .i64 E) rfl (by kernel_rfl) (by kernel_rfl) (by kernel_rfl) (fun _ _ _ h => h) (Or.inl ⟨by rfl, fun w' _ => by go_simp⟩) hHeld ?_
        refine wpAnyH_take (i := 13) (v := .int .i64 V) rfl (by kernel_rfl) (by kernel_rfl) (by kernel_rfl) (fun _ _ _ h => h) (Or.inl ⟨by rfl, fun w' _ => by go_simp⟩) hHeld ?_
        refine wpAnyH_take (i := 14) (v := .int .i64 E) rfl (by kernel_rfl) (by kernel_rfl) (by kernel_rfl) (fun _ _ _ h => h) (Or.inl ⟨by rfl, fun w' _ => by go_simp⟩) hHeld ?_
        refine wpAnyH_done (by kernel_rfl) (NoPanic.normal ?_) _
        clear hs1 hs2 hHeld R1 R2 Q3 HQ1 HQ2 HBB
        have HB5 := Lib.hid (bel_trans HB3.out HB4.out)
        have HTI3 := Lib.hid (ints_keep HTI2.out HB4.out)
        clear HTI2 HB4
        go_simp
        go_wp2_with fail
        refine (sum_is HV.out.1 HV.out.2 oc len cc _ _ HTI3.out (sm_reverse l)).mono ?_
        rintro r w4 ⟨rfl, hb⟩
        have HB6 := Lib.hid (bel_trans HB5.out hb)
        clear hb HTI3
        go_wp2_with fail
        refine (sum_is HQ.out.1 HQ.out.2 ob len2 cap2 _ _ (ints_keep HM.out HB6.out) rfl).mono ?_
        rintro r w5 ⟨rfl, hb⟩
        have HB7 := Lib.hid (bel_trans HB6.out hb)
        clear hb
        obtain ⟨v1, W1, W2, o3, c3, r1, r2, q3, bb⟩ := two_app 36 _ (own_empty w5) ((Below.refl _ _).alloc (Nat.le_refl _) _) (ints_keep HL.out HB7.out) (ints_keep HM.out HB7.out) (len + len2) rfl (by omega)
        have R1 := Lib.hid r1
        have R2 := Lib.hid r2
        have Q3 := Lib.hid q3
        have HBB := Lib.hid bb
        clear r1 r2 q3 bb
        go_wp2_with (first | (at_builtin; refine list_append_run rfl (.tmp 116) (.tmp 117) 36 rfl _ _ _ _ rfl rfl R1.out ?_) | (at_builtin; refine list_append_run rfl (.tmp 118) (.tmp 119) 36 rfl _ _ _ _ rfl rfl R2.out ?_))
        refine (sum_is HAI.out.1 HAI.out.2 o3 (len + len2) c3 _ _ Q3.out (sm_append l m)).mono ?_
        rintro r w6 ⟨rfl, hb⟩
        have HB8 := Lib.hid (bel_trans (bel_trans HB7.out HBB.out) hb)
        clear hb R1 R2 Q3 HBB
        rcases WL.out with ⟨he, hv, hv1⟩ | ⟨he, hv⟩
        · have hez : (E == 0) = true := by rw [he]; rfl
          rcases WM.out with ⟨hh, hq, hq1⟩ | ⟨hh, hq⟩
          · have hhz : (H == 0) = true := by rw [hh]; rfl
            have KA := Lib.hid (fun w => add_is (a := V) (b := Q) (v := A) (e := I) (by rw [hv]; omega) (by rw [hq]; omega) (by rw [hv, hq]; exact HAI.out.1) (by rw [hv, hq]; exact HAI.out.2) w)
            clear he hv hv1 hh hq hq1
            go_wp2_with fail
            refine (KA.out _).mono ?_
            rintro r w7 ⟨rfl, hb⟩
            have HB9 := Lib.hid (bel_trans HB8.out hb)
            clear hb
            go_wp2_with fail
            refine (add_is HA.out HBb.out HC.out.1 HC.out.2 _).mono ?_
            rintro r w8 ⟨rfl, hb⟩
            have HBa := Lib.hid (bel_trans HB9.out hb)
            clear hb
            go_wp2_with fail
            refine (add_is (v := C) (e := J) HBb.out HA.out (by rw [Int.add_comm]; exact HC.out.1) (by rw [Int.add_comm]; exact HC.out.2) _).mono ?_
            rintro r w9 ⟨rfl, hb⟩
            have HBb2 := Lib.hid (bel_trans HBa.out hb)
            clear hb HBa
            rcases WC.out with ⟨hj, hc, hc1⟩ | ⟨hj, hc⟩
            · have HJ := Lib.hid hj
              have hjz : (J != 0) = false := by rw [hj]; rfl
              have HCC := Lib.hid hc
              have HC1 := Lib.hid hc1
              clear hj hc hc1
              rcases far_ways a with ⟨f1, f2, f3⟩ | ⟨f1, f2, f3, f4⟩ | ⟨f1, f2, f3⟩
              · clear f3
                go_wp2_with fail
                refine (sub_is (a := C) (b := b) (v := 0) (e := 41) (by rw [HCC.out]; have := HC1.out; omega) HBb.out (by rw [HCC.out, show a + b - b = a by omega]; exact told_far (.inl (of_decide_eq_true f1)) |>.1) (by rw [HCC.out, show a + b - b = a by omega]; exact told_far (.inl (of_decide_eq_true f1)) |>.2) _).mono ?_
                rintro r w10 ⟨rfl, hb⟩
                have HBc := Lib.hid (bel_trans HBb2.out hb)
                clear hb
                go_wp2_with fail
                go_ret
                exact ⟨rfl, HBc.out⟩
              · clear f3
                go_wp2_with fail
                refine (sub_is (a := C) (b := b) (v := 0) (e := 41) (by rw [HCC.out]; have := HC1.out; omega) HBb.out (by rw [HCC.out, show a + b - b = a by omega]; exact told_far (.inr f4) |>.1) (by rw [HCC.out, show a + b - b = a by omega]; exact told_far (.inr f4) |>.2) _).mono ?_
                rintro r w10 ⟨rfl, hb⟩
                have HBc := Lib.hid (bel_trans HBb2.out hb)
                clear hb
                go_wp2_with fail
                go_ret
                exact ⟨rfl, HBc.out⟩
              · have F3 := Lib.hid f3
                clear f3
                go_wp2_with fail
                refine (sub_is (a := C) (b := b) (v := a) (e := 0) (by rw [HCC.out]; have := HC1.out; omega) HBb.out (by rw [HCC.out, show a + b - b = a by omega]; exact (told_near F3.out).1) (by rw [HCC.out, show a + b - b = a by omega]; exact (told_near F3.out).2) _).mono ?_
                rintro r w10 ⟨rfl, hb⟩
                have HBc := Lib.hid (bel_trans HBb2.out hb)
                clear hb
                go_wp2_with fail
                refine (is_yes a 0 a (by unfold isB; simp) _).mono ?_
                rintro r w11 ⟨rfl, rfl⟩
                go_wp2_with fail
                go_ret
                exact ⟨rfl, HBc.out⟩
            · have hjz : (J != 0) = true := by rw [hj]; rfl
              clear hj
              go_wp2_with fail
              go_ret
              exact ⟨rfl, HBb2.out⟩
          · have hhz : (H == 0) = false := by rw [hh]; rfl
            clear he hv hv1 hh hq
            go_wp2_with fail
            refine (add_is HA.out HBb.out HC.out.1 HC.out.2 _).mono ?_
            rintro r w8 ⟨rfl, hb⟩
            have HBa := Lib.hid (bel_trans HB8.out hb)
            clear hb
            go_wp2_with fail
            refine (add_is (v := C) (e := J) HBb.out HA.out (by rw [Int.add_comm]; exact HC.out.1) (by rw [Int.add_comm]; exact HC.out.2) _).mono ?_
            rintro r w9 ⟨rfl, hb⟩
            have HBb2 := Lib.hid (bel_trans HBa.out hb)
            clear hb HBa
            rcases WC.out with ⟨hj, hc, hc1⟩ | ⟨hj, hc⟩
            · have HJ := Lib.hid hj
              have hjz : (J != 0) = false := by rw [hj]; rfl
              have HCC := Lib.hid hc
              have HC1 := Lib.hid hc1
              clear hj hc hc1
              rcases far_ways a with ⟨f1, f2, f3⟩ | ⟨f1, f2, f3, f4⟩ | ⟨f1, f2, f3⟩
              · clear f3
                go_wp2_with fail
                refine (sub_is (a := C) (b := b) (v := 0) (e := 41) (by rw [HCC.out]; have := HC1.out; omega) HBb.out (by rw [HCC.out, show a + b - b = a by omega]; exact told_far (.inl (of_decide_eq_true f1)) |>.1) (by rw [HCC.out, show a + b - b = a by omega]; exact told_far (.inl (of_decide_eq_true f1)) |>.2) _).mono ?_
                rintro r w10 ⟨rfl, hb⟩
                have HBc := Lib.hid (bel_trans HBb2.out hb)
                clear hb
                go_wp2_with fail
                go_ret
                exact ⟨rfl, HBc.out⟩
              · clear f3
                go_wp2_with fail
                refine (sub_is (a := C) (b := b) (v := 0) (e := 41) (by rw [HCC.out]; have := HC1.out; omega) HBb.out (by rw [HCC.out, show a + b - b = a by omega]; exact told_far (.inr f4) |>.1) (by rw [HCC.out, show a + b - b = a by omega]; exact told_far (.inr f4) |>.2) _).mono ?_
                rintro r w10 ⟨rfl, hb⟩
                have HBc := Lib.hid (bel_trans HBb2.out hb)
                clear hb
                go_wp2_with fail
                go_ret
                exact ⟨rfl, HBc.out⟩
              · have F3 := Lib.hid f3
                clear f3
                go_wp2_with fail
                refine (sub_is (a := C) (b := b) (v := a) (e := 0) (by rw [HCC.out]; have := HC1.out; omega) HBb.out (by rw [HCC.out, show a + b - b = a by omega]; exact (told_near F3.out).1) (by rw [HCC.out, show a + b - b = a by omega]; exact (told_near F3.out).2) _).mono ?_
                rintro r w10 ⟨rfl, hb⟩
                have HBc := Lib.hid (bel_trans HBb2.out hb)
                clear hb
                go_wp2_with fail
                refine (is_yes a 0 a (by unfold isB; simp) _).mono ?_
                rintro r w11 ⟨rfl, rfl⟩
                go_wp2_with fail
                go_ret
                exact ⟨rfl, HBc.out⟩
            · have hjz : (J != 0) = true := by rw [hj]; rfl
              clear hj
              go_wp2_with fail
              go_ret
              exact ⟨rfl, HBb2.out⟩
        · have hez : (E == 0) = false := by rw [he]; rfl
          clear he hv
          go_wp2_with fail
          refine (add_is HA.out HBb.out HC.out.1 HC.out.2 _).mono ?_
          rintro r w8 ⟨rfl, hb⟩
          have HBa := Lib.hid (bel_trans HB8.out hb)
          clear hb
          go_wp2_with fail
          refine (add_is (v := C) (e := J) HBb.out HA.out (by rw [Int.add_comm]; exact HC.out.1) (by rw [Int.add_comm]; exact HC.out.2) _).mono ?_
          rintro r w9 ⟨rfl, hb⟩
          have HBb2 := Lib.hid (bel_trans HBa.out hb)
          clear hb HBa
          rcases WC.out with ⟨hj, hc, hc1⟩ | ⟨hj, hc⟩
          · have HJ := Lib.hid hj
            have hjz : (J != 0) = false := by rw [hj]; rfl
            have HCC := Lib.hid hc
            have HC1 := Lib.hid hc1
            clear hj hc hc1
            rcases far_ways a with ⟨f1, f2, f3⟩ | ⟨f1, f2, f3, f4⟩ | ⟨f1, f2, f3⟩
            · clear f3
              go_wp2_with fail
              refine (sub_is (a := C) (b := b) (v := 0) (e := 41) (by rw [HCC.out]; have := HC1.out; omega) HBb.out (by rw [HCC.out, show a + b - b = a by omega]; exact told_far (.inl (of_decide_eq_true f1)) |>.1) (by rw [HCC.out, show a + b - b = a by omega]; exact told_far (.inl (of_decide_eq_true f1)) |>.2) _).mono ?_
              rintro r w10 ⟨rfl, hb⟩
              have HBc := Lib.hid (bel_trans HBb2.out hb)
              clear hb
              go_wp2_with fail
              go_ret
              exact ⟨rfl, HBc.out⟩
            · clear f3
              go_wp2_with fail
              refine (sub_is (a := C) (b := b) (v := 0) (e := 41) (by rw [HCC.out]; have := HC1.out; omega) HBb.out (by rw [HCC.out, show a + b - b = a by omega]; exact told_far (.inr f4) |>.1) (by rw [HCC.out, show a + b - b = a by omega]; exact told_far (.inr f4) |>.2) _).mono ?_
              rintro r w10 ⟨rfl, hb⟩
              have HBc := Lib.hid (bel_trans HBb2.out hb)
              clear hb
              go_wp2_with fail
              go_ret
              exact ⟨rfl, HBc.out⟩
            · have F3 := Lib.hid f3
              clear f3
              go_wp2_with fail
              refine (sub_is (a := C) (b := b) (v := a) (e := 0) (by rw [HCC.out]; have := HC1.out; omega) HBb.out (by rw [HCC.out, show a + b - b = a by omega]; exact (told_near F3.out).1) (by rw [HCC.out, show a + b - b = a by omega]; exact (told_near F3.out).2) _).mono ?_
              rintro r w10 ⟨rfl, hb⟩
              have HBc := Lib.hid (bel_trans HBb2.out hb)
              clear hb
              go_wp2_with fail
              refine (is_yes a 0 a (by unfold isB; simp) _).mono ?_
              rintro r w11 ⟨rfl, rfl⟩
              go_wp2_with fail
              go_ret
              exact ⟨rfl, HBc.out⟩
          · have hjz : (J != 0) = true := by rw [hj]; rfl
            clear hj
            go_wp2_with fail
            go_ret
            exact ⟨rfl, HBb2.out⟩
  · have d3 : 0 < len := h0
    have e1 : (U : Int) % (len : Int) = (k : Int) := by omega
    have e2 : IntKind.u64.wrap (len : Int) = (len : Int) := IntWalk.u64_in _ (by omega)
    have e3 : IntKind.u64.wrap (k : Int) = (k : Int) := IntWalk.u64_in _ (by omega)
    have e4 : IntKind.i64.wrap (k : Int) = (k : Int) := IntWalk.i64_in _ (by omega)
    have e5 : (U : Int).tmod (len : Int) = (k : Int) := by rw [Int.tmod_eq_emod_of_nonneg (by omega)]; exact e1
    clear h0 hk0
    go_enter Tryd.func10, Tryd.ntmps10
    go_wp2_with fail
    refine (awake_any _ HR.out HP.out).mono ?_
    rintro r w1 ⟨rfl, hb1⟩
    have HB1 := Lib.hid hb1
    clear hb1
    go_wp2_with fail
    clear e1 e2 e3 e4 e5 hU
    go_loopw [12, 13] (fun vv cv wr => ∃ p : Nat, p ≤ len ∧ cv = .int .i64 ((p : Int) - 1) ∧ wr.ownsRow w1.heap.size 2 1 vv (len - p) (ivs (l.drop p).reverse) ∧ Below w1.heap.size w1 wr) (fun _ cv _ => (intOf cv + 1).toNat)
    case atStart => exact ⟨len, Nat.le_refl _, rfl, by rw [Nat.sub_self, List.drop_of_length_le (by rw [HLEN.out]; exact Nat.le_refl _)]; exact World.ownsRow_nil _ _ _ _, Below.refl _ _⟩
    case round =>
      obtain ⟨p, hp, rfl, ho, hb⟩ := hrel
      have HO := Lib.hid ho
      have HB := Lib.hid hb
      clear ho hb
      cases p with
      | succ p =>
        rw [show ((p + 1 : Nat) : Int) - 1 = (p : Int) by omega]
        have d4 : decide ((0 : Int) ≤ (p : Int)) = true := decide_eq_true (by omega)
        have g0 : (0 : Int) ≤ (p : Int) := by omega
        have g1 : (p : Int) < (len : Int) := by omega
        rcases HL.out.2.2.2.2 with hz | ⟨b', off, rfl, hbl, hc⟩
        · omega
        have x0 := (((bel_trans HB1.out HB.out).cell (p := ⟨b', off + p, none⟩) hbl)).trans (hc p (by omega))
        obtain ⟨n, hn⟩ : ∃ n, l.getD p 0 = n := ⟨_, rfl⟩
        rw [hn] at x0
        have HN := Lib.hid hn
        clear hc hn
        go_wp2_with (at_builtin; refine wpList_append_own _ rfl _ _ 36 rfl w1.heap.size 2 i0 (.int .i64 0) 1 8 Tryd.underlying36 HI.out.1 HI.out.2.1 HI.out.2.2.1 HI.out.2.2.2 rfl (by decide) _ _ _ rfl (HO.out.alloc _) ⟨wr.heap.size, 0, none⟩ 1 1 [.int .i64 n] rfl rfl (one_cell _ _ _) (one_one _) (by unfold maxLen; omega) (by omega) (by have := HB.out.size; simp; omega) ?_)
        intro v' w2 hown hgrow _
        have HO2 := Lib.hid (row_step hp HLEN.out HN.out hown)
        have HB2 := Lib.hid (row_below HB.out HO.out hgrow)
        clear hown hgrow x0
        go_wp2_with fail
        go_roundw
        case rel => exact ⟨p, by omega, rfl, HO2.out, HB2.out⟩
        case measure => simp [intOf]
      | zero =>
        obtain ⟨oc, cc, rfl, ht⟩ := ints_of_own (by have := HO.out; simp only [Nat.sub_zero, List.drop_zero] at this; exact this) (fun x hx => HWL.out x (List.mem_reverse.1 hx))
        have HTI := Lib.hid ht
        have HB2 := Lib.hid (bel_trans HB1.out HB.out)
        clear ht HO HB
        go_wp2_with fail
        refine (sum_is HV.out.1 HV.out.2 oa len cap l _ (ints_keep HL.out HB2.out) rfl).mono ?_
        rintro r w2 ⟨rfl, hb⟩
        have HB3 := Lib.hid (bel_trans HB2.out hb)
        have HTI2 := Lib.hid (ints_keep HTI.out hb)
        clear hb HTI
        obtain ⟨o1, hs1, q1⟩ := slice_from (ints_keep HL.out HB3.out) k hk
        obtain ⟨o2, hs2, q2⟩ := slice_to (ints_keep HL.out HB3.out) k hk
        have HQ1 := Lib.hid q1
        obtain ⟨v1, W1, W2, o3, c3, r1, r2, q3, bb⟩ := two_app 36 _ (own_empty w2).drew ((Below.refl _ _).alloc (Nat.le_refl _) _).drew q1 q2 len (by omega) (by omega)
        have R1 := Lib.hid r1
        have R2 := Lib.hid r2
        have Q3 := Lib.hid q3
        have HBB := Lib.hid bb
        clear r1 r2 q3 bb
        have HQ2 := Lib.hid q2
        clear q1 q2
        go_wp2_with fail
        refine wp_region_noPanic ?_
        refine wp_region_held_drew (S := fun _ => True) (by kernel_rfl) trivial (fun hHeld => ?_)
        refine wpAnyH_take (i := 1) (v := .slice oa len cap) rfl (by kernel_rfl) (by kernel_rfl) (by kernel_rfl) (fun _ _ _ h => h) (Or.inl ⟨by rfl, fun w' _ => by go_simp⟩) hHeld ?_
        refine wpAnyH_take (i := 2) (v := .int .i64 (k : Int)) rfl (by kernel_rfl) (by kernel_rfl) (by kernel_rfl) (fun _ _ _ h => h) (Or.inl ⟨by rfl, fun w' _ => by go_simp⟩) hHeld ?_
        refine wpAnyH_take (i := 3) (v := .slice o1 (len - k) (cap - k)) rfl (by kernel_rfl) (by kernel_rfl) (by kernel_rfl) (fun _ _ _ h => h) (Or.inl ⟨by rfl, fun w' _ => by go_simp⟩) hHeld ?_
        refine wpAnyH_take (i := 5) (v := .slice oa len cap) rfl (by kernel_rfl) (by kernel_rfl) (by kernel_rfl) (fun _ _ _ h => h) (Or.inl ⟨by rfl, fun w' _ => by go_simp⟩) hHeld ?_
        refine wpAnyH_take (i := 6) (v := .int .i64 (k : Int)) rfl (by kernel_rfl) (by kernel_rfl) (by kernel_rfl) (fun _ _ _ h => h) (Or.inl ⟨by rfl, fun w' _ => by go_simp⟩) hHeld ?_
        refine wpAnyH_take (i := 7) (v := .slice o2 k cap) rfl (by kernel_rfl) (by kernel_rfl) (by kernel_rfl) (fun _ _ _ h => h) (Or.inl ⟨by rfl, fun w' _ => by go_simp⟩) hHeld ?_
        refine wpAnyH_ready (rs := [0]) (by kernel_rfl) (by simp) ?_
        refine AllReadyH.cons rfl (fun K hK => ?_) AllReadyH.nil
        go_simp
        refine hK.out _ _ trivial (fun hHeld => ?_)
        clear hK K
        refine wpAnyH_ready (rs := [4]) (by kernel_rfl) (by simp) ?_
        refine AllReadyH.cons rfl (fun K hK => ?_) AllReadyH.nil
        refine step_append_run (by rfl) (.tmp 75) (.tmp 78) 36 (by rfl) _ _ _ _ (by rfl) (by rfl) R1.out ?_
        refine hK.out _ _ trivial (fun hHeld => ?_)
        clear hK K
        refine wpAnyH_ready (rs := [8]) (by kernel_rfl) (by simp) ?_
        refine AllReadyH.cons rfl (fun K hK => ?_) AllReadyH.nil
        refine step_append_run (by rfl) (.tmp 79) (.tmp 82) 36 (by rfl) _ _ _ _ (by rfl) (by rfl) R2.out ?_
        refine hK.out _ _ trivial (fun hHeld => ?_)
        clear hK K
        refine wpAnyH_ready (rs := [9]) (by kernel_rfl) (by simp) ?_
        refine AllReadyH.cons rfl (fun K hK => ?_) AllReadyH.nil
        go_simp
        go_at_call 24
        with_reducible refine (sum_is HV.out.1 HV.out.2 o3 len c3 _ _ Q3.out (sm_turn l k)).mono ?_
        rintro r w3 ⟨rfl, hb⟩
        have HB4 := Lib.hid (bel_trans HBB.out hb)
        clear hb
        refine hK.out _ _ trivial (fun hHeld => ?_)
        clear hK K
        refine wpAnyH_take (i := 10) (v := .tuple #[.int .i64 V, .int .i64 E]) rfl (by kernel_rfl) (by kernel_rfl) (by kernel_rfl) (fun _ _ _ h => h) (Or.inl ⟨by rfl, fun w' _ => by go_simp⟩) hHeld ?_
        refine wpAnyH_take (i := 11) (v := .int .i64 V) rfl (by kernel_rfl) (by kernel_rfl) (by kernel_rfl) (fun _ _ _ h => h) (Or.inl ⟨by rfl, fun w' _ => by go_simp⟩) hHeld ?_
        refine wpAnyH_take (i := 12) (v := .int .i64 E) rfl (by kernel_rfl) (by kernel_rfl) (by kernel_rfl) (fun _ _ _ h => h) (Or.inl ⟨by rfl, fun w' _ => by go_simp⟩) hHeld ?_
        refine wpAnyH_take (i := 13) (v := .int .i64 V) rfl (by kernel_rfl) (by kernel_rfl) (by kernel_rfl) (fun _ _ _ h => h) (Or.inl ⟨by rfl, fun w' _ => by go_simp⟩) hHeld ?_
        refine wpAnyH_take (i := 14) (v := .int .i64 E) rfl (by kernel_rfl) (by kernel_rfl) (by kernel_rfl) (fun _ _ _ h => h) (Or.inl ⟨by rfl, fun w' _ => by go_simp⟩) hHeld ?_
        refine wpAnyH_done (by kernel_rfl) (NoPanic.normal ?_) _
        clear hs1 hs2 hHeld R1 R2 Q3 HQ1 HQ2 HBB
        have HB5 := Lib.hid (bel_trans HB3.out HB4.out)
        have HTI3 := Lib.hid (ints_keep HTI2.out HB4.out)
        clear HTI2 HB4
        go_simp
        go_wp2_with fail
        refine (sum_is HV.out.1 HV.out.2 oc len cc _ _ HTI3.out (sm_reverse l)).mono ?_
        rintro r w4 ⟨rfl, hb⟩
        have HB6 := Lib.hid (bel_trans HB5.out hb)
        clear hb HTI3
        go_wp2_with fail
        refine (sum_is HQ.out.1 HQ.out.2 ob len2 cap2 _ _ (ints_keep HM.out HB6.out) rfl).mono ?_
        rintro r w5 ⟨rfl, hb⟩
        have HB7 := Lib.hid (bel_trans HB6.out hb)
        clear hb
        obtain ⟨v1, W1, W2, o3, c3, r1, r2, q3, bb⟩ := two_app 36 _ (own_empty w5) ((Below.refl _ _).alloc (Nat.le_refl _) _) (ints_keep HL.out HB7.out) (ints_keep HM.out HB7.out) (len + len2) rfl (by omega)
        have R1 := Lib.hid r1
        have R2 := Lib.hid r2
        have Q3 := Lib.hid q3
        have HBB := Lib.hid bb
        clear r1 r2 q3 bb
        go_wp2_with (first | (at_builtin; refine list_append_run rfl (.tmp 116) (.tmp 117) 36 rfl _ _ _ _ rfl rfl R1.out ?_) | (at_builtin; refine list_append_run rfl (.tmp 118) (.tmp 119) 36 rfl _ _ _ _ rfl rfl R2.out ?_))
        refine (sum_is HAI.out.1 HAI.out.2 o3 (len + len2) c3 _ _ Q3.out (sm_append l m)).mono ?_
        rintro r w6 ⟨rfl, hb⟩
        have HB8 := Lib.hid (bel_trans (bel_trans HB7.out HBB.out) hb)
        clear hb R1 R2 Q3 HBB
        rcases WL.out with ⟨he, hv, hv1⟩ | ⟨he, hv⟩
        · have hez : (E == 0) = true := by rw [he]; rfl
          rcases WM.out with ⟨hh, hq, hq1⟩ | ⟨hh, hq⟩
          · have hhz : (H == 0) = true := by rw [hh]; rfl
            have KA := Lib.hid (fun w => add_is (a := V) (b := Q) (v := A) (e := I) (by rw [hv]; omega) (by rw [hq]; omega) (by rw [hv, hq]; exact HAI.out.1) (by rw [hv, hq]; exact HAI.out.2) w)
            clear he hv hv1 hh hq hq1
            go_wp2_with fail
            refine (KA.out _).mono ?_
            rintro r w7 ⟨rfl, hb⟩
            have HB9 := Lib.hid (bel_trans HB8.out hb)
            clear hb
            go_wp2_with fail
            refine (add_is HA.out HBb.out HC.out.1 HC.out.2 _).mono ?_
            rintro r w8 ⟨rfl, hb⟩
            have HBa := Lib.hid (bel_trans HB9.out hb)
            clear hb
            go_wp2_with fail
            refine (add_is (v := C) (e := J) HBb.out HA.out (by rw [Int.add_comm]; exact HC.out.1) (by rw [Int.add_comm]; exact HC.out.2) _).mono ?_
            rintro r w9 ⟨rfl, hb⟩
            have HBb2 := Lib.hid (bel_trans HBa.out hb)
            clear hb HBa
            rcases WC.out with ⟨hj, hc, hc1⟩ | ⟨hj, hc⟩
            · have HJ := Lib.hid hj
              have hjz : (J != 0) = false := by rw [hj]; rfl
              have HCC := Lib.hid hc
              have HC1 := Lib.hid hc1
              clear hj hc hc1
              rcases far_ways a with ⟨f1, f2, f3⟩ | ⟨f1, f2, f3, f4⟩ | ⟨f1, f2, f3⟩
              · clear f3
                go_wp2_with fail
                refine (sub_is (a := C) (b := b) (v := 0) (e := 41) (by rw [HCC.out]; have := HC1.out; omega) HBb.out (by rw [HCC.out, show a + b - b = a by omega]; exact told_far (.inl (of_decide_eq_true f1)) |>.1) (by rw [HCC.out, show a + b - b = a by omega]; exact told_far (.inl (of_decide_eq_true f1)) |>.2) _).mono ?_
                rintro r w10 ⟨rfl, hb⟩
                have HBc := Lib.hid (bel_trans HBb2.out hb)
                clear hb
                go_wp2_with fail
                go_ret
                exact ⟨rfl, HBc.out⟩
              · clear f3
                go_wp2_with fail
                refine (sub_is (a := C) (b := b) (v := 0) (e := 41) (by rw [HCC.out]; have := HC1.out; omega) HBb.out (by rw [HCC.out, show a + b - b = a by omega]; exact told_far (.inr f4) |>.1) (by rw [HCC.out, show a + b - b = a by omega]; exact told_far (.inr f4) |>.2) _).mono ?_
                rintro r w10 ⟨rfl, hb⟩
                have HBc := Lib.hid (bel_trans HBb2.out hb)
                clear hb
                go_wp2_with fail
                go_ret
                exact ⟨rfl, HBc.out⟩
              · have F3 := Lib.hid f3
                clear f3
                go_wp2_with fail
                refine (sub_is (a := C) (b := b) (v := a) (e := 0) (by rw [HCC.out]; have := HC1.out; omega) HBb.out (by rw [HCC.out, show a + b - b = a by omega]; exact (told_near F3.out).1) (by rw [HCC.out, show a + b - b = a by omega]; exact (told_near F3.out).2) _).mono ?_
                rintro r w10 ⟨rfl, hb⟩
                have HBc := Lib.hid (bel_trans HBb2.out hb)
                clear hb
                go_wp2_with fail
                refine (is_yes a 0 a (by unfold isB; simp) _).mono ?_
                rintro r w11 ⟨rfl, rfl⟩
                go_wp2_with fail
                go_ret
                exact ⟨rfl, HBc.out⟩
            · have hjz : (J != 0) = true := by rw [hj]; rfl
              clear hj
              go_wp2_with fail
              go_ret
              exact ⟨rfl, HBb2.out⟩
          · have hhz : (H == 0) = false := by rw [hh]; rfl
            clear he hv hv1 hh hq
            go_wp2_with fail
            refine (add_is HA.out HBb.out HC.out.1 HC.out.2 _).mono ?_
            rintro r w8 ⟨rfl, hb⟩
            have HBa := Lib.hid (bel_trans HB8.out hb)
            clear hb
            go_wp2_with fail
            refine (add_is (v := C) (e := J) HBb.out HA.out (by rw [Int.add_comm]; exact HC.out.1) (by rw [Int.add_comm]; exact HC.out.2) _).mono ?_
            rintro r w9 ⟨rfl, hb⟩
            have HBb2 := Lib.hid (bel_trans HBa.out hb)
            clear hb HBa
            rcases WC.out with ⟨hj, hc, hc1⟩ | ⟨hj, hc⟩
            · have HJ := Lib.hid hj
              have hjz : (J != 0) = false := by rw [hj]; rfl
              have HCC := Lib.hid hc
              have HC1 := Lib.hid hc1
              clear hj hc hc1
              rcases far_ways a with ⟨f1, f2, f3⟩ | ⟨f1, f2, f3, f4⟩ | ⟨f1, f2, f3⟩
              · clear f3
                go_wp2_with fail
                refine (sub_is (a := C) (b := b) (v := 0) (e := 41) (by rw [HCC.out]; have := HC1.out; omega) HBb.out (by rw [HCC.out, show a + b - b = a by omega]; exact told_far (.inl (of_decide_eq_true f1)) |>.1) (by rw [HCC.out, show a + b - b = a by omega]; exact told_far (.inl (of_decide_eq_true f1)) |>.2) _).mono ?_
                rintro r w10 ⟨rfl, hb⟩
                have HBc := Lib.hid (bel_trans HBb2.out hb)
                clear hb
                go_wp2_with fail
                go_ret
                exact ⟨rfl, HBc.out⟩
              · clear f3
                go_wp2_with fail
                refine (sub_is (a := C) (b := b) (v := 0) (e := 41) (by rw [HCC.out]; have := HC1.out; omega) HBb.out (by rw [HCC.out, show a + b - b = a by omega]; exact told_far (.inr f4) |>.1) (by rw [HCC.out, show a + b - b = a by omega]; exact told_far (.inr f4) |>.2) _).mono ?_
                rintro r w10 ⟨rfl, hb⟩
                have HBc := Lib.hid (bel_trans HBb2.out hb)
                clear hb
                go_wp2_with fail
                go_ret
                exact ⟨rfl, HBc.out⟩
              · have F3 := Lib.hid f3
                clear f3
                go_wp2_with fail
                refine (sub_is (a := C) (b := b) (v := a) (e := 0) (by rw [HCC.out]; have := HC1.out; omega) HBb.out (by rw [HCC.out, show a + b - b = a by omega]; exact (told_near F3.out).1) (by rw [HCC.out, show a + b - b = a by omega]; exact (told_near F3.out).2) _).mono ?_
                rintro r w10 ⟨rfl, hb⟩
                have HBc := Lib.hid (bel_trans HBb2.out hb)
                clear hb
                go_wp2_with fail
                refine (is_yes a 0 a (by unfold isB; simp) _).mono ?_
                rintro r w11 ⟨rfl, rfl⟩
                go_wp2_with fail
                go_ret
                exact ⟨rfl, HBc.out⟩
            · have hjz : (J != 0) = true := by rw [hj]; rfl
              clear hj
              go_wp2_with fail
              go_ret
              exact ⟨rfl, HBb2.out⟩
        · have hez : (E == 0) = false := by rw [he]; rfl
          clear he hv
          go_wp2_with fail
          refine (add_is HA.out HBb.out HC.out.1 HC.out.2 _).mono ?_
          rintro r w8 ⟨rfl, hb⟩
          have HBa := Lib.hid (bel_trans HB8.out hb)
          clear hb
          go_wp2_with fail
          refine (add_is (v := C) (e := J) HBb.out HA.out (by rw [Int.add_comm]; exact HC.out.1) (by rw [Int.add_comm]; exact HC.out.2) _).mono ?_
          rintro r w9 ⟨rfl, hb⟩
          have HBb2 := Lib.hid (bel_trans HBa.out hb)
          clear hb HBa
          rcases WC.out with ⟨hj, hc, hc1⟩ | ⟨hj, hc⟩
          · have HJ := Lib.hid hj
            have hjz : (J != 0) = false := by rw [hj]; rfl
            have HCC := Lib.hid hc
            have HC1 := Lib.hid hc1
            clear hj hc hc1
            rcases far_ways a with ⟨f1, f2, f3⟩ | ⟨f1, f2, f3, f4⟩ | ⟨f1, f2, f3⟩
            · clear f3
              go_wp2_with fail
              refine (sub_is (a := C) (b := b) (v := 0) (e := 41) (by rw [HCC.out]; have := HC1.out; omega) HBb.out (by rw [HCC.out, show a + b - b = a by omega]; exact told_far (.inl (of_decide_eq_true f1)) |>.1) (by rw [HCC.out, show a + b - b = a by omega]; exact told_far (.inl (of_decide_eq_true f1)) |>.2) _).mono ?_
              rintro r w10 ⟨rfl, hb⟩
              have HBc := Lib.hid (bel_trans HBb2.out hb)
              clear hb
              go_wp2_with fail
              go_ret
              exact ⟨rfl, HBc.out⟩
            · clear f3
              go_wp2_with fail
              refine (sub_is (a := C) (b := b) (v := 0) (e := 41) (by rw [HCC.out]; have := HC1.out; omega) HBb.out (by rw [HCC.out, show a + b - b = a by omega]; exact told_far (.inr f4) |>.1) (by rw [HCC.out, show a + b - b = a by omega]; exact told_far (.inr f4) |>.2) _).mono ?_
              rintro r w10 ⟨rfl, hb⟩
              have HBc := Lib.hid (bel_trans HBb2.out hb)
              clear hb
              go_wp2_with fail
              go_ret
              exact ⟨rfl, HBc.out⟩
            · have F3 := Lib.hid f3
              clear f3
              go_wp2_with fail
              refine (sub_is (a := C) (b := b) (v := a) (e := 0) (by rw [HCC.out]; have := HC1.out; omega) HBb.out (by rw [HCC.out, show a + b - b = a by omega]; exact (told_near F3.out).1) (by rw [HCC.out, show a + b - b = a by omega]; exact (told_near F3.out).2) _).mono ?_
              rintro r w10 ⟨rfl, hb⟩
              have HBc := Lib.hid (bel_trans HBb2.out hb)
              clear hb
              go_wp2_with fail
              refine (is_yes a 0 a (by unfold isB; simp) _).mono ?_
              rintro r w11 ⟨rfl, rfl⟩
              go_wp2_with fail
              go_ret
              exact ⟨rfl, HBc.out⟩
          · have hjz : (J != 0) = true := by rw [hj]; rfl
            clear hj
            go_wp2_with fail
            go_ret
            exact ⟨rfl, HBb2.out⟩
end Go.Proofs.YtikjnfghlohjkaaDoor
