/- soukref03: two, one, Sum, Sub, Cap, at large. -/
import Derived.Test.YtikjnfghlohjkaaGreatDoorMonRowL
namespace Go.Proofs.YtikjnfghlohjkaaGreatDoor
open Go.RowKit

theorem and32_all (n : Int) : bits .and .i64 n 4294967295 = n % 4294967296 := by
  have hb : (BitVec.ofInt 64 4294967295).toNat = 4294967295 := by decide
  have ha : ((BitVec.ofInt 64 n).toNat : Int) = n % 18446744073709551616 := by
    rw [BitVec.toNat_ofInt]
    omega
  show IntKind.i64.wrap ((BitVec.ofInt 64 n &&& BitVec.ofInt 64 4294967295).toNat : Int) = _
  rw [BitVec.toNat_and, hb, show (4294967295 : Nat) = 2 ^ 32 - 1 from rfl, Nat.and_two_pow_sub_one_eq_mod, IntWalk.i64_in _ (by omega)]
  omega
theorem two_all (n : Int) (_h0 : -9223372036854775808 ≤ n) (_h1 : n ≤ 9223372036854775807) (w : World) :
    Calls Tryz.prog 19 #[.int .i64 n] w fun e w' => e = .returned (.tuple #[.int .i64 (n / 4294967296), .int .i64 (n % 4294967296)]) ∧ w' = w := by
  have h := and32_all n
  go_enter Tryz.func19, Tryz.ntmps19
  go_wp2_with fail
  go_ret2
  exact ⟨rfl, rfl⟩
theorem one_all (h l : Int) (h0 : -4398046511104 ≤ h ∧ h ≤ 4398046511104) (l0 : -1125899906842624 ≤ l ∧ l ≤ 1125899906842624) (w : World) :
    Calls Tryz.prog 20 #[.int .i64 h, .int .i64 l] w fun e w' => e = .returned (.tuple #[.int .i64 (toldV (h * 4294967296 + l)), .int .i64 (toldE (h * 4294967296 + l))]) ∧ w' = w := by
  have e1 := and32_all l
  obtain ⟨m, hm⟩ : ∃ m, l % 4294967296 = m := ⟨_, rfl⟩
  obtain ⟨u, hu⟩ : ∃ u, h + l / 4294967296 = u := ⟨_, rfl⟩
  rw [hm] at e1
  have hur : -4400000000000 ≤ u ∧ u ≤ 4400000000000 := by omega
  have hmr : 0 ≤ m ∧ m < 4294967296 := by omega
  have HT := Lib.hid (show h * 4294967296 + l = u * 4294967296 + m by omega)
  have HE := Lib.hid (show ∀ v e : Int, v = toldV (h * 4294967296 + l) → e = toldE (h * 4294967296 + l) → Ending.returned (.tuple #[.int .i64 v, .int .i64 e]) = .returned (.tuple #[.int .i64 (toldV (h * 4294967296 + l)), .int .i64 (toldE (h * 4294967296 + l))]) from fun _ _ => told_eq)
  have HM := Lib.hid hm
  clear hm
  go_enter Tryz.func20, Tryz.ntmps20
  go_wp2_with fail
  all_goals
    go_ret2
    exact ⟨HE.out _ _ (by rw [HT.out]; unfold toldV; split <;> omega) (by rw [HT.out]; unfold toldE; split <;> omega), rfl⟩

def hi (l : List Int) : Int := sm (l.map (fun n => n / 4294967296))
def lo (l : List Int) : Int := sm (l.map (fun n => n % 4294967296))
theorem hi_cons (x : Int) (l : List Int) : hi (x :: l) = x / 4294967296 + hi l := by unfold hi; rw [List.map_cons, sm_cons]
theorem lo_cons (x : Int) (l : List Int) : lo (x :: l) = x % 4294967296 + lo l := by unfold lo; rw [List.map_cons, sm_cons]
theorem hilo : ∀ l : List Int, hi l * 4294967296 + lo l = sm l
  | [] => rfl
  | x :: l => by have := hilo l; rw [hi_cons, lo_cons, sm_cons]; omega
theorem hilo_bd : ∀ l : List Int, (∀ n ∈ l, -9223372036854775808 ≤ n ∧ n ≤ 9223372036854775807) → (-2147483648 * (l.length : Int) ≤ hi l ∧ hi l ≤ 2147483648 * (l.length : Int)) ∧ 0 ≤ lo l ∧ lo l ≤ 4294967296 * (l.length : Int)
  | [], _ => by decide
  | x :: l, h => by
    have h1 := hilo_bd l (fun n hn => h n (List.mem_cons_of_mem _ hn))
    have h2 := h x (List.mem_cons_self ..)
    rw [hi_cons, lo_cons, List.length_cons]
    omega
theorem hilo_take (l : List Int) (k : Nat) (h : k < l.length) (x : Int) (hx : l.getD k 0 = x) : hi (l.take (k + 1)) = hi (l.take k) + x / 4294967296 ∧ lo (l.take (k + 1)) = lo (l.take k) + x % 4294967296 := by
  rw [List.getD_eq_getElem?_getD, List.getElem?_eq_getElem h] at hx
  have hx' : l[k] = x := hx
  unfold hi lo
  rw [List.take_succ_eq_append_getElem h, hx', List.map_append, List.map_append, sm_append, sm_append]
  constructor
  · show _ + sm [x / 4294967296] = _; rw [sm_cons]; show _ + (_ + 0) = _; omega
  · show _ + sm [x % 4294967296] = _; rw [sm_cons]; show _ + (_ + 0) = _; omega
theorem wf64 {n : Int} (h : (Lit.int .i64 n).wf = true) : -9223372036854775808 ≤ n ∧ n ≤ 9223372036854775807 := by
  simp [Lit.wf, IntKind.min, IntKind.max, IntKind.signed, IntKind.bits] at h
  omega

set_option maxHeartbeats 1000000 in
theorem rsum_all (a : Option Addr) (len cap : Nat) (l : List Int) (w : World) (h : IntsIn .i64 w a len cap l) (hs : len ≤ 1000) :
    Calls Tryz.prog 6 #[.slice a len cap] w fun e w' => e = .returned (.tuple #[.int .i64 (toldV (sm l)), .int .i64 (toldE (sm l))]) ∧ Below w.heap.size w w' := by
  have H := Lib.hid h
  have HL := Lib.hid h.1
  have HW := Lib.hid (fun n hn => wf64 (h.2.2.2.1 n hn))
  clear h
  go_enter Tryz.func6, Tryz.ntmps6
  go_wp2_with fail
  go_loopw [4, 5, 6] (fun hv lv iv wr => ∃ k : Nat, k ≤ len ∧ iv = .int .i64 k ∧ hv = .int .i64 (hi (l.take k)) ∧ lv = .int .i64 (lo (l.take k)) ∧ wr = w) (fun _ _ iv _ => len - (intOf iv).toNat)
  case atStart => exact ⟨0, Nat.zero_le _, rfl, rfl, rfl, rfl⟩
  case round =>
    obtain ⟨k, hk, rfl, rfl, rfl, rfl⟩ := hrel
    have hbd := hilo_bd (l.take k) (fun n hn => HW.out n (List.mem_of_mem_take hn))
    rw [List.length_take, HL.out] at hbd
    obtain ⟨p, hp⟩ : ∃ p, hi (l.take k) = p := ⟨_, rfl⟩
    obtain ⟨q, hq⟩ : ∃ q, lo (l.take k) = q := ⟨_, rfl⟩
    have hpq := hilo (l.take k)
    rw [hp, hq] at hbd hpq
    rw [hp, hq]
    have hb1 : -2200000000000 ≤ p ∧ p ≤ 2200000000000 := by omega
    have hb2 : 0 ≤ q ∧ q ≤ 4300000000000 := by omega
    by_cases hin : k < len
    · rcases H.out.2.2.2.2 with h0 | ⟨b, off, rfl, hbl, hc⟩
      · omega
      obtain ⟨x, hx⟩ : ∃ x, l.getD k 0 = x := ⟨_, rfl⟩
      have c0 := hc k hin
      rw [hx] at c0
      have hxb : -9223372036854775808 ≤ x ∧ x ≤ 9223372036854775807 := by
        refine HW.out x ?_
        rw [← hx, List.getD_eq_getElem?_getD, List.getElem?_eq_getElem (by rw [HL.out]; exact hin)]
        exact List.getElem_mem _
      have ht := hilo_take l k (by rw [HL.out]; exact hin) x hx
      rw [hp, hq] at ht
      have t1 := two_all x hxb.1 hxb.2
      obtain ⟨y, hy⟩ : ∃ y, x / 4294967296 = y := ⟨_, rfl⟩
      obtain ⟨z, hz⟩ : ∃ z, x % 4294967296 = z := ⟨_, rfl⟩
      rw [hy, hz] at t1 ht
      have hyb : -2147483648 ≤ y ∧ y ≤ 2147483648 := by omega
      have hzb : 0 ≤ z ∧ z ≤ 4294967296 := by omega
      have d0 : decide ((k : Int) < (len : Int)) = true := decide_eq_true (by omega)
      have HT := Lib.hid ht
      have T1 := Lib.hid t1
      clear hc hx hp hq hy hz ht hpq hbd hxb t1
      go_wp2_with fail
      refine (T1.out _).mono ?_
      rintro e w1 ⟨rfl, rfl⟩
      go_wp2_with fail
      go_roundw
      case rel => exact ⟨k + 1, by omega, by go_num, by rw [HT.out.1], by rw [HT.out.2], trivial⟩
      case measure => simp [intOf]; omega
    · obtain rfl : k = len := by omega
      have hlk : l.take k = l := by rw [← HL.out]; exact List.take_length
      rw [hlk] at hpq
      have t1 := one_all p q (by omega) (by omega)
      rw [hpq] at t1
      have T1 := Lib.hid t1
      clear hp hq hpq hbd t1 hlk
      go_wp2_with fail
      refine (T1.out _).mono ?_
      rintro e w1 ⟨rfl, rfl⟩
      go_wp2_with fail
      go_ret2
      exact ⟨rfl, Below.refl _ _⟩
theorem rsub_all (a b : Int) (ha : -9223372036854775808 ≤ a ∧ a ≤ 9223372036854775807) (hb : -9223372036854775808 ≤ b ∧ b ≤ 9223372036854775807) (w : World) :
    Calls Tryz.prog 9 #[.int .i64 a, .int .i64 b] w fun e w' => e = .returned (.tuple #[.int .i64 (toldV (a - b)), .int .i64 (toldE (a - b))]) ∧ w' = w := by
  have t1 := two_all a ha.1 ha.2
  have t2 := two_all b hb.1 hb.2
  obtain ⟨p, hp⟩ : ∃ p, a / 4294967296 = p := ⟨_, rfl⟩
  obtain ⟨q, hq⟩ : ∃ q, a % 4294967296 = q := ⟨_, rfl⟩
  obtain ⟨r, hr⟩ : ∃ r, b / 4294967296 = r := ⟨_, rfl⟩
  obtain ⟨s, hs⟩ : ∃ s, b % 4294967296 = s := ⟨_, rfl⟩
  rw [hp, hq] at t1
  rw [hr, hs] at t2
  have b1 : -2147483648 ≤ p ∧ p ≤ 2147483648 := by omega
  have b2 : -2147483648 ≤ r ∧ r ≤ 2147483648 := by omega
  have b3 : 0 ≤ q ∧ q < 4294967296 := by omega
  have b4 : 0 ≤ s ∧ s < 4294967296 := by omega
  have t3 := one_all (p - r) (q - s) (by omega) (by omega)
  rw [show (p - r) * 4294967296 + (q - s) = a - b by omega] at t3
  have T1 := Lib.hid t1
  have T2 := Lib.hid t2
  have T3 := Lib.hid t3
  clear hp hq hr hs t1 t2 t3 ha hb
  go_enter Tryz.func9, Tryz.ntmps9
  go_wp2_with fail
  refine (T1.out _).mono ?_
  rintro e w1 ⟨rfl, rfl⟩
  go_wp2_with fail
  refine (T2.out _).mono ?_
  rintro e w1 ⟨rfl, rfl⟩
  go_wp2_with fail
  refine (T3.out _).mono ?_
  rintro e w1 ⟨rfl, rfl⟩
  go_wp2_with fail
  go_ret2
  exact ⟨rfl, rfl⟩
end Go.Proofs.YtikjnfghlohjkaaGreatDoor
