/- Package money: plus, minus, told. -/
import Derived.Test.YtikjnfghlohjkaaGreatDoorProg
import Derived.Test.YtikjnfghlohjkaaGreatDoorRowsIn
import Derived.WalkKit
import Derived.WalkSpells
import Derived.WalkLawsBesides
import Derived.Lib.Hide
import Derived.Laws.Externs
import Derived.IntWalk
import Derived.Outline
import Derived.Shelf.Spec.BitsCarry
import Derived.Test.YtikjnfghlohjkaaGreatDoorShelf
namespace Go.Proofs.YtikjnfghlohjkaaGreatDoor
open Go.RowKit

theorem bel_trans {w w1 w2 : World} (h : Below w.heap.size w w1) (k : Below w1.heap.size w1 w2) : Below w.heap.size w w2 := h.trans (k.mono h.size)
theorem i64_in3 {n : Int} (h : (Lit.int .i64 n).wf = true) : -9223372036854775808 ≤ n ∧ n ≤ 9223372036854775807 := by
  simp [Lit.wf, IntKind.min, IntKind.max, IntKind.signed, IntKind.bits] at h
  exact h
theorem ret_int {k : IntKind} {a b : Int} (h : a = b) : Ending.returned (.int k a) = .returned (.int k b) := by rw [h]
theorem val_int {k : IntKind} {a b : Int} (h : a = b) : Value.int k a = .int k b := by rw [h]

/-- 2^64 -/
def M64 : Nat := 18446744073709551616
theorem add64_run (x y : Nat) (hx : x < 18446744073709551616) (hy : y < 18446744073709551616) (w : World) :
    (callFunc 31 #[.int .u64 x, .int .u64 y, .int .u64 0]).run Tryz.prog w = .ok (.value (.tuple #[.int .u64 (((x + y) % 18446744073709551616 : Nat) : Int), .int .u64 (((x + y) / 18446744073709551616 : Nat) : Int)])) w := by
  rw [run_callFunc_extern Tryz.func31 (by kernel_rfl) (by kernel_rfl) (by kernel_rfl) (e := add64Entry) (by kernel_rfl), run_add64 x y 0 (by omega) (by omega) (by omega) (by omega)]
  simp only [Result.andThen]
  congr 5 <;> omega

/-- a number of 128 bits, in its two words -/
def wd (T : Int) : Value := .agg #[.int .i64 (T / 18446744073709551616), .int .u64 (T % 18446744073709551616)]

theorem results_wd {f : Func} (hf : f.results = #[.cell 4 36]) (tmps : Array Value) (w : World) (g : Nat) (x y : Value) (hp : tmps.getD 4 undef = .pointer (some ⟨g, 0, none⟩)) (hg : w.heap[g]? = some (.cells #[x, y] 36)) :
    (results f tmps).run Tryz.prog w = .ok (.agg #[x, y]) w := by
  have hp' : tmps[4]?.getD undef = .pointer (some ⟨g, 0, none⟩) := by simpa using hp
  simp [results, hf, hp', asAddr, run_loadVar_row w g 36 36 #[x, y] (0, 0) _ hg Tryz.underlying36 rfl (by kernel_rfl)]
theorem new2 (w : World) (a b : Obj) : ((w.alloc a).alloc b).heap[w.heap.size + 1]? = some b := heap_alloc2_new _ _ _
theorem wd_eq {h l T : Int} (h1 : h = T / 18446744073709551616) (h2 : l = T % 18446744073709551616) : Ending.returned (.agg #[.int .i64 h, .int .u64 l]) = .returned (wd T) := by rw [h1, h2]; rfl

set_option maxHeartbeats 400000 in
theorem plus_any (T n : Int) (hT : -85070591730234615865843651857942052864 ≤ T ∧ T ≤ 85070591730234615865843651857942052864) (hn : -9223372036854775808 ≤ n ∧ n ≤ 9223372036854775807) (w : World) :
    Calls Tryz.prog 17 #[wd T, .int .i64 n] w fun e w' => e = .returned (wd (T + n)) ∧ Below w.heap.size w w' := by
  obtain ⟨m, hm⟩ : ∃ m : Nat, IntKind.u64.wrap n = m := ⟨(IntKind.u64.wrap n).toNat, by rw [IntKind.wrap_u64]; omega⟩
  obtain ⟨l, hl⟩ : ∃ l : Nat, T % 18446744073709551616 = l := ⟨(T % 18446744073709551616).toNat, by omega⟩
  have hm2 : m < 18446744073709551616 := by rw [IntKind.wrap_u64] at hm; omega
  have ha := add64_run l m (by omega) hm2
  have HE := Lib.hid (show ∀ h lo : Int, h = (T + n) / 18446744073709551616 → lo = (T + n) % 18446744073709551616 → Ending.returned (.agg #[.int .i64 h, .int .u64 lo]) = .returned (wd (T + n)) from fun _ _ => wd_eq)
  unfold wd
  rw [hl]
  go_enter Tryz.func17, Tryz.ntmps17
  go_wp2_with fail
  rw [IntKind.wrap_u64] at hm
  refine bodyPost_ret_by (results_wd rfl _ _ (w.heap.size + 1) _ _ rfl (new2 _ _ _)) rfl ?_
  exact ⟨HE.out _ _ (by omega) (by omega), ((Below.refl _ _).alloc (Nat.le_refl _) _).alloc (by simp) _⟩

theorem sub64_run (x y : Nat) (hx : x < 18446744073709551616) (hy : y < 18446744073709551616) (w : World) :
    (callFunc 32 #[.int .u64 x, .int .u64 y, .int .u64 0]).run Tryz.prog w = .ok (.value (.tuple #[.int .u64 (((x : Int) - y) % 18446744073709551616), .int .u64 (if x < y then 1 else 0)])) w := by
  rw [run_callFunc_extern Tryz.func32 (by kernel_rfl) (by kernel_rfl) (by kernel_rfl) (e := sub64Entry) (by kernel_rfl), show (sub64Entry #[.int .u64 x, .int .u64 y, .int .u64 0]).run Tryz.prog w = _ from run_sub64 x y 0 (by omega) w]
  simp only [Result.andThen]
  have e1 : (((x + 18446744073709551616 - y - 0) % 18446744073709551616 : Nat) : Int) = ((x : Int) - y) % 18446744073709551616 := by omega
  rw [e1]
  congr 5
  split <;> simp_all
set_option maxHeartbeats 400000 in
theorem minus_any (T n : Int) (hT : -85070591730234615865843651857942052864 ≤ T ∧ T ≤ 85070591730234615865843651857942052864) (hn : -9223372036854775808 ≤ n ∧ n ≤ 9223372036854775807) (w : World) :
    Calls Tryz.prog 21 #[wd T, .int .i64 n] w fun e w' => e = .returned (wd (T - n)) ∧ Below w.heap.size w w' := by
  obtain ⟨m, hm⟩ : ∃ m : Nat, IntKind.u64.wrap n = m := ⟨(IntKind.u64.wrap n).toNat, by rw [IntKind.wrap_u64]; omega⟩
  obtain ⟨l, hl⟩ : ∃ l : Nat, T % 18446744073709551616 = l := ⟨(T % 18446744073709551616).toNat, by omega⟩
  have hm2 : m < 18446744073709551616 := by rw [IntKind.wrap_u64] at hm; omega
  have ha := sub64_run l m (by omega) hm2
  have HE := Lib.hid (show ∀ h lo : Int, h = (T - n) / 18446744073709551616 → lo = (T - n) % 18446744073709551616 → Ending.returned (.agg #[.int .i64 h, .int .u64 lo]) = .returned (wd (T - n)) from fun _ _ => wd_eq)
  obtain ⟨c, hc⟩ : ∃ c : Nat, (if l < m then (1 : Int) else 0) = c ∧ c ≤ 1 := by split; exact ⟨1, rfl, by omega⟩; exact ⟨0, rfl, by omega⟩
  obtain ⟨d, hd⟩ : ∃ d : Nat, ((l : Int) - m) % 18446744073709551616 = d := ⟨(((l : Int) - m) % 18446744073709551616).toNat, by omega⟩
  rw [hc.1, hd] at ha
  have HC := Lib.hid hc.1
  have hc1 := hc.2
  have HD := Lib.hid hd
  unfold wd
  rw [hl]
  clear hc hd
  go_enter Tryz.func21, Tryz.ntmps21
  go_wp2_with fail
  rw [IntKind.wrap_u64] at hm
  have h1 := HC.out
  have h2 := HD.out
  refine bodyPost_ret_by (results_wd rfl _ _ (w.heap.size + 1) _ _ rfl (new2 _ _ _)) rfl ?_
  refine ⟨HE.out _ _ (by split at h1 <;> omega) (by omega), ((Below.refl _ _).alloc (Nat.le_refl _) _).alloc (by simp) _⟩

def toldE (T : Int) : Int := if -4611686018427387904 ≤ T ∧ T ≤ 4611686018427387904 then 0 else 41
def toldV (T : Int) : Int := if -4611686018427387904 ≤ T ∧ T ≤ 4611686018427387904 then T else 0
theorem told_eq {a b c d : Int} (h1 : a = c) (h2 : b = d) : Ending.returned (.tuple #[.int .i64 a, .int .i64 b]) = .returned (.tuple #[.int .i64 c, .int .i64 d]) := by rw [h1, h2]
theorem told_any (T : Int) (hT : -85070591730234615865843651857942052864 ≤ T ∧ T ≤ 85070591730234615865843651857942052864) (w : World) :
    Calls Tryz.prog 18 #[wd T] w fun e w' => e = .returned (.tuple #[.int .i64 (toldV T), .int .i64 (toldE T)]) ∧ Below w.heap.size w w' := by
  obtain ⟨l, hl⟩ : ∃ l : Nat, T % 18446744073709551616 = l := ⟨(T % 18446744073709551616).toNat, by omega⟩
  obtain ⟨v, hv⟩ : ∃ v : Int, IntKind.i64.wrap (l : Int) = v := ⟨_, rfl⟩
  obtain ⟨h, hh⟩ : ∃ h : Int, T / 18446744073709551616 = h := ⟨_, rfl⟩
  have HV := Lib.hid (show (v = l ∧ (l : Int) < 9223372036854775808) ∨ (v = l - 18446744073709551616 ∧ 9223372036854775808 ≤ (l : Int)) by rw [← hv, IntKind.wrap_i64]; omega)
  have hvr : -9223372036854775808 ≤ v ∧ v ≤ 9223372036854775807 := by rw [← hv, IntKind.wrap_i64]; omega
  have HH := Lib.hid hh
  have HL := Lib.hid hl
  have HE := Lib.hid (show ∀ a b : Int, a = toldV T → b = toldE T → Ending.returned (.tuple #[.int .i64 a, .int .i64 b]) = .returned (.tuple #[.int .i64 (toldV T), .int .i64 (toldE T)]) from fun _ _ => told_eq)
  unfold wd
  rw [hl, hh]
  clear hl hh
  go_enter Tryz.func18, Tryz.ntmps18
  go_wp2_with fail
  all_goals
    go_ret2
    have h1 := HV.out
    have h2 := HH.out
    have h3 := HL.out
    exact ⟨HE.out _ _ (by unfold toldV; split <;> omega) (by unfold toldE; split <;> omega), (Below.refl _ _).alloc (Nat.le_refl _) _⟩
end Go.Proofs.YtikjnfghlohjkaaGreatDoor
