/- Package money: Sum, Add, Sub, Cap. -/
import Derived.Test.YtikjnfghlohjkaaGreatDoorMonA
namespace Go.Proofs.YtikjnfghlohjkaaGreatDoor
open Go.RowKit

def sm (l : List Int) : Int := l.foldl (fun t n => t + n) 0
theorem sm_bound : ∀ (l : List Int) (c : Int), (∀ n ∈ l, (Lit.int .i64 n).wf = true) → c - l.length * 9223372036854775808 ≤ l.foldl (fun t n => t + n) c ∧ l.foldl (fun t n => t + n) c ≤ c + l.length * 9223372036854775808
  | [], c, _ => by simp
  | x :: l, c, h => by
    have h1 := sm_bound l (c + x) (fun n hn => h n (List.mem_cons_of_mem _ hn))
    have h2 := h x (List.mem_cons_self ..)
    simp [Lit.wf, IntKind.min, IntKind.max, IntKind.signed, IntKind.bits] at h2
    simp only [List.foldl_cons, List.length_cons]
    omega
theorem sm_take (l : List Int) (k : Nat) (h : k < l.length) : sm (l.take (k + 1)) = sm (l.take k) + l.getD k 0 := by
  unfold sm
  rw [List.take_add_one, List.getElem?_eq_getElem h, Option.toList_some, List.foldl_append]
  simp [List.getD, List.getElem?_eq_getElem h]
def wcells (T : Int) : Array Value := #[.int .i64 (T / 18446744073709551616), .int .u64 (T % 18446744073709551616)]
theorem wide_new (w : World) (B : Nat) (T : Int) (x y : Value) (h : w.heap[B]? = some (.cells #[x, y] 36)) : ((w.setCell ⟨B, 0, none⟩ (.int .i64 (T / 18446744073709551616))).setCell ⟨B, 1, none⟩ (.int .u64 (T % 18446744073709551616))).heap[B]? = some (.cells (wcells T) 36) :=
  heap_setCell_same _ _ 1 _ _ (.int .u64 _) (heap_setCell_same _ _ 0 _ _ (.int .i64 _) h)

set_option maxHeartbeats 1000000 in
theorem sum_any (a : Option Addr) (len cap : Nat) (l : List Int) (w : World) (h : IntsIn .i64 w a len cap l) :
    Calls Tryz.prog 5 #[.slice a len cap] w fun e w' => e = .returned (.tuple #[.int .i64 (toldV (sm l)), .int .i64 (toldE (sm l))]) ∧ Below w.heap.size w w' := by
  obtain ⟨hl, hlc, hcm, hwf, hc⟩ := h
  have hmx : maxLen ≤ 9223372036854775807 := by decide
  have HBD := Lib.hid (fun (k : Nat) => sm_bound (l.take k) 0 (fun n hn => hwf n (List.mem_of_mem_take hn)))
  have HW := Lib.hid hwf
  have HC := Lib.hid hc
  have HL := Lib.hid hl
  clear hc hwf hl
  go_enter Tryz.func5, Tryz.ntmps5
  go_wp2_with fail
  obtain ⟨W0, eW⟩ : ∃ W0, w.alloc (.cells #[.int .i64 0, .int .u64 0] 36) = W0 := ⟨_, rfl⟩
  have hr0 : W0.heap[w.heap.size]? = some (.cells (wcells 0) 36) := by rw [← eW]; exact heap_alloc_new _ _
  have hb0 : Below w.heap.size w W0 := by rw [← eW]; exact (Below.refl _ _).alloc (Nat.le_refl _) _
  rw [eW]
  clear eW
  go_loopw [9] (fun iv wr => ∃ k : Nat, k ≤ len ∧ iv = .int .i64 k ∧ wr.heap[w.heap.size]? = some (.cells (wcells (sm (l.take k))) 36) ∧ Below w.heap.size w wr) (fun iv _ => len - (intOf iv).toNat)
  case atStart => exact ⟨0, Nat.zero_le _, rfl, hr0, hb0⟩
  case round =>
    obtain ⟨k, hk, rfl, hr, hb⟩ := hrel
    clear hr0 hb0
    have hbd := HBD.out k
    rw [List.length_take, HL.out] at hbd
    obtain ⟨T, hT⟩ : ∃ T, sm (l.take k) = T := ⟨_, rfl⟩
    have hTb : -85070591730234615865843651857942052864 ≤ T ∧ T ≤ 85070591730234615865843651857942052864 := by
      rw [← hT]; unfold sm
      have : min k len ≤ 9223372036854775807 := by omega
      omega
    rw [hT] at hr
    have c0 : wr.cell? ⟨w.heap.size, 0, none⟩ = some (.int .i64 (T / 18446744073709551616)) := by rw [cell_of_row _ _ _ _ _ _ hr]; rfl
    have c1 : wr.cell? ⟨w.heap.size, 1, none⟩ = some (.int .u64 (T % 18446744073709551616)) := by rw [cell_of_row _ _ _ _ _ _ hr]; rfl
    have HR := Lib.hid hr
    have HB := Lib.hid hb
    have HT := Lib.hid hT
    clear hr hb hT hbd
    by_cases hin : k < len
    · rcases HC.out with h0 | ⟨b, off, rfl, hbl, hcells⟩
      · omega
      have x0 := (HB.out.cell (p := ⟨b, off + k, none⟩) hbl).trans (hcells k hin)
      obtain ⟨n, hn⟩ : ∃ n, l.getD k 0 = n := ⟨_, rfl⟩
      have hnw : -9223372036854775808 ≤ n ∧ n ≤ 9223372036854775807 := by
        have hkl : k < l.length := by rw [HL.out]; exact hin
        have := HW.out n (by rw [← hn]; simp [List.getD, List.getElem?_eq_getElem hkl])
        simp [Lit.wf, IntKind.min, IntKind.max, IntKind.signed, IntKind.bits] at this
        exact this
      rw [hn] at x0
      have HN := Lib.hid hn
      have d2 : decide ((k : Int) < (len : Int)) = true := decide_eq_true (by omega)
      have g0 : (0 : Int) ≤ (k : Int) := by omega
      have g1 : (k : Int) < (len : Int) := by omega
      clear hcells hn
      go_wp2_with fail
      refine (plus_any T n hTb hnw _).mono ?_
      rintro e w1 ⟨rfl, hb1⟩
      have hr1 := (hb1.block _ (Array.getElem?_eq_some_iff.1 HR.out).1).trans HR.out
      have e0 : w1.cell? ⟨w.heap.size, 0, none⟩ = some (.int .i64 (T / 18446744073709551616)) := by rw [cell_of_row _ _ _ _ _ _ hr1]; rfl
      have e1 : w1.cell? ⟨w.heap.size, 1, none⟩ = some (.int .u64 (T % 18446744073709551616)) := by rw [cell_of_row _ _ _ _ _ _ hr1]; rfl
      have f0 : w1.frozen? ⟨w.heap.size, 0, none⟩ = false := frozen_of_row _ _ _ _ _ hr1
      have f1 : w1.frozen? ⟨w.heap.size, 1, none⟩ = false := frozen_of_row _ _ _ _ _ hr1
      have HR1 := Lib.hid hr1
      have HB1 := Lib.hid (bel_trans HB.out hb1)
      clear hr1 hb1 c0 c1
      unfold wd
      go_wp2_with fail
      go_roundw
      case rel =>
        refine ⟨k + 1, by omega, by go_num, ?_, ?_⟩
        · rw [sm_take l k (by rw [HL.out]; exact hin), HT.out, HN.out]
          exact wide_new _ _ _ _ _ HR1.out
        · exact (HB1.out.setCell (p := ⟨w.heap.size, 0, none⟩) (Nat.le_refl _) _).setCell (p := ⟨w.heap.size, 1, none⟩) (Nat.le_refl _) _
      case measure => simp [intOf]; omega
    · obtain rfl : k = len := by omega
      have d2 : decide ((k : Int) < (k : Int)) = false := decide_eq_false (by omega)
      have hT2 : sm l = T := by rw [← HT.out, List.take_of_length_le (by rw [HL.out]; exact Nat.le_refl _)]
      have HT2 := Lib.hid hT2
      clear hT2
      go_wp2_with fail
      refine (told_any T hTb _).mono ?_
      rintro e w1 ⟨rfl, hb1⟩
      have HB1 := Lib.hid (bel_trans HB.out hb1)
      clear hb1
      go_wp2_with fail
      go_ret2
      exact ⟨by rw [HT2.out]; rfl, HB1.out⟩

def addE (a b : Int) : Int := toldE (a + b)
def addV (a b : Int) : Int := toldV (a + b)
theorem ints2 (w : World) (a b : Int) (ha : -9223372036854775808 ≤ a ∧ a ≤ 9223372036854775807) (hb : -9223372036854775808 ≤ b ∧ b ≤ 9223372036854775807) :
    IntsIn .i64 (w.alloc (.cells #[.int .i64 a, .int .i64 b] 2)) (some ⟨w.heap.size, 0, none⟩) 2 2 [a, b] := by
  refine ⟨rfl, Nat.le_refl _, by decide, ?_, .inr ⟨_, _, rfl, by simp, fun j hj => ?_⟩⟩
  · intro n hn
    simp [Lit.wf, IntKind.min, IntKind.max, IntKind.signed, IntKind.bits]
    simp at hn
    omega
  · rw [World.cell?_alloc_new]
    match j, hj with
    | 0, _ => rfl
    | 1, _ => rfl
theorem add_any (a b : Int) (ha : -9223372036854775808 ≤ a ∧ a ≤ 9223372036854775807) (hb : -9223372036854775808 ≤ b ∧ b ≤ 9223372036854775807) (w : World) :
    Calls Tryz.prog 7 #[.int .i64 a, .int .i64 b] w fun e w' => e = .returned (.tuple #[.int .i64 (addV a b), .int .i64 (addE a b)]) ∧ Below w.heap.size w w' := by
  have HI := Lib.hid (ints2 w a b ha hb)
  have HS := Lib.hid (show addV a b = toldV (sm [a, b]) ∧ addE a b = toldE (sm [a, b]) by simp [addV, addE, sm])
  clear ha hb
  go_enter Tryz.func7, Tryz.ntmps7
  go_wp2_with fail
  refine (sum_any _ 2 2 [a, b] _ HI.out).mono ?_
  rintro e w1 ⟨rfl, hb1⟩
  have HB := Lib.hid (bel_trans ((Below.refl w.heap.size w).alloc (Nat.le_refl _) _) hb1)
  rw [← HS.out.1, ← HS.out.2]
  clear hb1 HS HI
  go_wp2_with fail
  go_ret2
  exact ⟨rfl, HB.out⟩
def subE (a b : Int) : Int := toldE (a - b)
def subV (a b : Int) : Int := toldV (a - b)
theorem sub_any (a b : Int) (ha : -9223372036854775808 ≤ a ∧ a ≤ 9223372036854775807) (hb : -9223372036854775808 ≤ b ∧ b ≤ 9223372036854775807) (w : World) :
    Calls Tryz.prog 8 #[.int .i64 a, .int .i64 b] w fun e w' => e = .returned (.tuple #[.int .i64 (subV a b), .int .i64 (subE a b)]) ∧ Below w.heap.size w w' := by
  have HA := Lib.hid ha
  have HBb := Lib.hid hb
  have HP := fun w => plus_any 0 a (by omega) ha w
  rw [Int.zero_add] at HP
  clear ha hb
  go_enter Tryz.func8, Tryz.ntmps8
  go_wp2_with fail
  refine (HP _).mono ?_
  rintro e w1 ⟨rfl, hb1⟩
  go_wp2_with fail
  refine (minus_any a b (by have := HA.out; omega) HBb.out _).mono ?_
  rintro e w2 ⟨rfl, hb2⟩
  go_wp2_with fail
  refine (told_any (a - b) (by have := HA.out; have := HBb.out; omega) _).mono ?_
  rintro e w3 ⟨rfl, hb3⟩
  have HB := Lib.hid (bel_trans (bel_trans hb1 hb2) hb3)
  clear hb1 hb2 hb3
  go_wp2_with fail
  go_ret2
  exact ⟨rfl, HB.out⟩

def wthn (n : Int) : Int := if n < 0 then 0 else if 4611686018427387904 < n then 4611686018427387904 else n
theorem within_any (n : Int) (w : World) :
    Calls Tryz.prog 22 #[.int .i64 n] w fun e w' => e = .returned (.int .i64 (wthn n)) ∧ w' = w := by
  have HE := Lib.hid (show ∀ a : Int, a = wthn n → Ending.returned (.int .i64 a) = .returned (.int .i64 (wthn n)) from fun _ => ret_int)
  go_enter Tryz.func22, Tryz.ntmps22
  go_wp2_with fail
  all_goals
    go_ret
    exact ⟨HE.out _ (by unfold wthn; (repeat' split) <;> omega), rfl⟩
theorem wthn_in (n : Int) : 0 ≤ wthn n ∧ wthn n ≤ 4611686018427387904 := by unfold wthn; (repeat' split) <;> omega
def capV (a b : Int) : Int := if 4611686018427387904 < wthn a + wthn b then 4611686018427387904 else wthn a + wthn b
theorem cap_any (a b : Int) (w : World) :
    Calls Tryz.prog 10 #[.int .i64 a, .int .i64 b] w fun e w' => e = .returned (.int .i64 (capV a b)) ∧ w' = w := by
  have HE := Lib.hid (show ∀ x : Int, x = capV a b → Ending.returned (.int .i64 x) = .returned (.int .i64 (capV a b)) from fun _ => ret_int)
  have hx := wthn_in a
  have hy := wthn_in b
  have HX := within_any a
  have HY := within_any b
  obtain ⟨x, ex⟩ : ∃ x, wthn a = x := ⟨_, rfl⟩
  obtain ⟨y, ey⟩ : ∃ y, wthn b = y := ⟨_, rfl⟩
  rw [ex] at HX hx
  rw [ey] at HY hy
  have EX := Lib.hid ex
  have EY := Lib.hid ey
  clear ex ey
  go_enter Tryz.func10, Tryz.ntmps10
  go_wp2_with fail
  refine (HX _).mono ?_
  rintro e w1 ⟨rfl, rfl⟩
  go_wp2_with fail
  refine (HY _).mono ?_
  rintro e w1 ⟨rfl, rfl⟩
  go_wp2_with fail
  all_goals
    go_ret
    exact ⟨HE.out _ (by unfold capV; rw [EX.out, EY.out]; split <;> omega), rfl⟩
end Go.Proofs.YtikjnfghlohjkaaGreatDoor
