/- fault.Code, Of, In, Wrap. -/
import Derived.Test.YtabjpnggihginaaDoorFltC
namespace Go.Proofs.YtabjpnggihginaaDoor
open Go.RowKit Go.Extern.Stop Go.Stop Go.Extern

theorem KeepX.below {E : Nat → Prop} {B : Nat} {A W : World} (h : KeepX E A W) (hB : B ≤ A.heap.size) (hE : ∀ k, E k → B ≤ k) : Below B A W :=
  ⟨h.os, h.tape, h.output, h.size, fun i hi => h.block i (by omega) (fun e => by have := hE i e; omega)⟩

set_option maxHeartbeats 4000000 in
theorem code_int (l : List Wr) (n : Int) (v : Value) (w : World) (hc : Chn w (.iface 23 (.int .i64 n)) l v) (he : ErrT w) :
    Calls Tryd.prog 19 #[v] w fun e w' => e = .returned (.tuple #[.int .i64 n, .bool true]) ∧ Below w.heap.size w w' := by
  obtain ⟨W0, eW⟩ : ∃ W0, w.alloc (.cells #[.int .i64 0] 23) = W0 := ⟨_, rfl⟩
  have hb0 : Below w.heap.size w W0 := by rw [← eW]; exact (Below.refl _ _).alloc (Nat.le_refl _) _
  have ht : W0.heap[w.heap.size]? = some (.cells #[.int .i64 0] 23) := by rw [← eW]; exact World.alloc_heap_new _ _
  have HA := Lib.hid (As_int l n v w.heap.size 0 W0 (hc.keep (fun k hk => hb0.block k hk)) (he.keep hb0) ht)
  have HB := Lib.hid hb0
  clear hc he hb0 ht
  go_enter Tryd.func19, Tryd.ntmps19
  go_wp2_with fail
  refine HA.out.mono ?_
  rintro e w1 ⟨rfl, hk, hr⟩
  have c0 : w1.cell? ⟨w.heap.size, 0, none⟩ = some (.int .i64 n) := by rw [cell_of_row _ _ _ _ _ _ hr]; rfl
  have HK := Lib.hid (HB.out.trans (hk.below HB.out.size (fun _ e => by omega)))
  clear HA hk hr
  go_wp2_with fail
  go_ret2
  exact ⟨rfl, HK.out⟩
set_option maxHeartbeats 4000000 in
theorem code_own (l : List Wr) (v : Value) (w : World) (hc : Chn w (.iface 44 (.agg #[])) l v) (he : ErrT w) :
    Calls Tryd.prog 19 #[v] w fun e w' => e = .returned (.tuple #[.int .i64 0, .bool false]) ∧ Below w.heap.size w w' := by
  obtain ⟨W0, eW⟩ : ∃ W0, w.alloc (.cells #[.int .i64 0] 23) = W0 := ⟨_, rfl⟩
  have hb0 : Below w.heap.size w W0 := by rw [← eW]; exact (Below.refl _ _).alloc (Nat.le_refl _) _
  have ht : W0.heap[w.heap.size]? = some (.cells #[.int .i64 0] 23) := by rw [← eW]; exact World.alloc_heap_new _ _
  have HA := Lib.hid (As_own l v w.heap.size 0 W0 (hc.keep (fun k hk => hb0.block k hk)) (he.keep hb0) ht)
  have HB := Lib.hid hb0
  clear hc he hb0 ht
  go_enter Tryd.func19, Tryd.ntmps19
  go_wp2_with fail
  refine HA.out.mono ?_
  rintro e w1 ⟨rfl, hb⟩
  have HK := Lib.hid (HB.out.trans (hb.mono HB.out.size))
  clear HA hb
  go_wp2_with fail
  go_ret2
  exact ⟨rfl, HK.out⟩
set_option maxHeartbeats 4000000 in
theorem code_nil (w : World) : Calls Tryd.prog 19 #[.nilIface] w fun e w' => e = .returned (.tuple #[.int .i64 0, .bool false]) ∧ Below w.heap.size w w' := by
  go_enter Tryd.func19, Tryd.ntmps19
  go_wp2_with fail
  refine (As_nil _ _).mono ?_
  rintro e w1 ⟨rfl, rfl⟩
  go_wp2_with fail
  go_ret2
  exact ⟨rfl, (Below.refl _ _).alloc (Nat.le_refl _) _⟩

set_option maxHeartbeats 4000000 in
theorem wrap_any (t : TypeId) (y : Value) (o n : ByteArray) (a : Int) (w : World) :
    Calls Tryd.prog 13 #[.iface t y, .string o, .string n, .int .i64 a] w
      fun e w' => e = .returned (.iface 55 (.pointer (some ⟨w.heap.size, 0, none⟩))) ∧ w' = w.alloc (.cells #[.string o, .string n, .int .i64 a, .iface t y] 57) := by
  go_enter Tryd.func13, Tryd.ntmps13
  go_wp2_with fail
  go_ret
  exact ⟨rfl, rfl⟩
theorem wrap_nil (o n : ByteArray) (a : Int) (w : World) :
    Calls Tryd.prog 13 #[.nilIface, .string o, .string n, .int .i64 a] w fun e w' => e = .returned .nilIface ∧ w' = w := by
  go_enter Tryd.func13, Tryd.ntmps13
  go_wp2_with fail
  go_ret
  exact ⟨rfl, rfl⟩
/-- a chain, wrapped once more -/
theorem Chn.wrap {w : World} {T : TypeId} {x : Value} {l : List Wr} {v : Value} (h : Chn w (.iface T x) l v) (o n : ByteArray) (a : Int) :
    Chn (w.alloc (.cells #[.string o, .string n, .int .i64 a, v] 57)) (.iface T x) (⟨o, n, a⟩ :: l) (.iface 55 (.pointer (some ⟨w.heap.size, 0, none⟩))) :=
  ⟨_, v, rfl, World.alloc_heap_new _ _, h.keep (fun _ hk => Below.heap_alloc _ _ _ hk)⟩

/-- whose fault a number is -/
def ofC (n : Int) : Nat :=
  if n = 1 ∨ n = 2 then 1 else if n = 4 ∨ n = 8 ∨ n = 42 ∨ n = 43 then 2 else if n = 44 ∨ n = 45 ∨ n = 52 then 4
  else if n = 5 ∨ n = 6 ∨ n = 40 ∨ n = 41 ∨ n = 46 ∨ n = 47 ∨ n = 48 ∨ n = 49 ∨ n = 50 ∨ n = 51 then 3 else 0
theorem of_other (n : Int) (w : World) (h : ¬ (n = 1 ∨ n = 2 ∨ n = 4 ∨ n = 8 ∨ n = 42 ∨ n = 43 ∨ n = 44 ∨ n = 45 ∨ n = 52 ∨ n = 5 ∨ n = 6 ∨ n = 40 ∨ n = 41 ∨ n = 46 ∨ n = 47 ∨ n = 48 ∨ n = 49 ∨ n = 50 ∨ n = 51)) : Calls Tryd.prog 16 #[.int .i64 n] w fun e w' => e = .returned (.int .u8 0) ∧ w' = w := by
  have d1 : (n == 1) = false := by rw [beq_eq_false_iff_ne]; omega
  have d2 : (n == 2) = false := by rw [beq_eq_false_iff_ne]; omega
  have d4 : (n == 4) = false := by rw [beq_eq_false_iff_ne]; omega
  have d8 : (n == 8) = false := by rw [beq_eq_false_iff_ne]; omega
  have d42 : (n == 42) = false := by rw [beq_eq_false_iff_ne]; omega
  have d43 : (n == 43) = false := by rw [beq_eq_false_iff_ne]; omega
  have d44 : (n == 44) = false := by rw [beq_eq_false_iff_ne]; omega
  have d45 : (n == 45) = false := by rw [beq_eq_false_iff_ne]; omega
  have d52 : (n == 52) = false := by rw [beq_eq_false_iff_ne]; omega
  have d5 : (n == 5) = false := by rw [beq_eq_false_iff_ne]; omega
  have d6 : (n == 6) = false := by rw [beq_eq_false_iff_ne]; omega
  have d40 : (n == 40) = false := by rw [beq_eq_false_iff_ne]; omega
  have d41 : (n == 41) = false := by rw [beq_eq_false_iff_ne]; omega
  have d46 : (n == 46) = false := by rw [beq_eq_false_iff_ne]; omega
  have d47 : (n == 47) = false := by rw [beq_eq_false_iff_ne]; omega
  have d48 : (n == 48) = false := by rw [beq_eq_false_iff_ne]; omega
  have d49 : (n == 49) = false := by rw [beq_eq_false_iff_ne]; omega
  have d50 : (n == 50) = false := by rw [beq_eq_false_iff_ne]; omega
  have d51 : (n == 51) = false := by rw [beq_eq_false_iff_ne]; omega
  clear h
  go_enter Tryd.func16, Tryd.ntmps16
  go_wp2_with fail
  go_ret
  exact ⟨rfl, rfl⟩
theorem of_1 (w : World) : Calls Tryd.prog 16 #[.int .i64 1] w fun e w' => e = .returned (.int .u8 1) ∧ w' = w := by
  go_enter Tryd.func16, Tryd.ntmps16
  go_wp2_with fail
  go_ret
  exact ⟨rfl, rfl⟩
theorem of_2 (w : World) : Calls Tryd.prog 16 #[.int .i64 2] w fun e w' => e = .returned (.int .u8 1) ∧ w' = w := by
  go_enter Tryd.func16, Tryd.ntmps16
  go_wp2_with fail
  go_ret
  exact ⟨rfl, rfl⟩
theorem of_4 (w : World) : Calls Tryd.prog 16 #[.int .i64 4] w fun e w' => e = .returned (.int .u8 2) ∧ w' = w := by
  go_enter Tryd.func16, Tryd.ntmps16
  go_wp2_with fail
  go_ret
  exact ⟨rfl, rfl⟩
theorem of_8 (w : World) : Calls Tryd.prog 16 #[.int .i64 8] w fun e w' => e = .returned (.int .u8 2) ∧ w' = w := by
  go_enter Tryd.func16, Tryd.ntmps16
  go_wp2_with fail
  go_ret
  exact ⟨rfl, rfl⟩
theorem of_42 (w : World) : Calls Tryd.prog 16 #[.int .i64 42] w fun e w' => e = .returned (.int .u8 2) ∧ w' = w := by
  go_enter Tryd.func16, Tryd.ntmps16
  go_wp2_with fail
  go_ret
  exact ⟨rfl, rfl⟩
theorem of_43 (w : World) : Calls Tryd.prog 16 #[.int .i64 43] w fun e w' => e = .returned (.int .u8 2) ∧ w' = w := by
  go_enter Tryd.func16, Tryd.ntmps16
  go_wp2_with fail
  go_ret
  exact ⟨rfl, rfl⟩
theorem of_44 (w : World) : Calls Tryd.prog 16 #[.int .i64 44] w fun e w' => e = .returned (.int .u8 4) ∧ w' = w := by
  go_enter Tryd.func16, Tryd.ntmps16
  go_wp2_with fail
  go_ret
  exact ⟨rfl, rfl⟩
theorem of_45 (w : World) : Calls Tryd.prog 16 #[.int .i64 45] w fun e w' => e = .returned (.int .u8 4) ∧ w' = w := by
  go_enter Tryd.func16, Tryd.ntmps16
  go_wp2_with fail
  go_ret
  exact ⟨rfl, rfl⟩
theorem of_52 (w : World) : Calls Tryd.prog 16 #[.int .i64 52] w fun e w' => e = .returned (.int .u8 4) ∧ w' = w := by
  go_enter Tryd.func16, Tryd.ntmps16
  go_wp2_with fail
  go_ret
  exact ⟨rfl, rfl⟩
theorem of_5 (w : World) : Calls Tryd.prog 16 #[.int .i64 5] w fun e w' => e = .returned (.int .u8 3) ∧ w' = w := by
  go_enter Tryd.func16, Tryd.ntmps16
  go_wp2_with fail
  go_ret
  exact ⟨rfl, rfl⟩
theorem of_6 (w : World) : Calls Tryd.prog 16 #[.int .i64 6] w fun e w' => e = .returned (.int .u8 3) ∧ w' = w := by
  go_enter Tryd.func16, Tryd.ntmps16
  go_wp2_with fail
  go_ret
  exact ⟨rfl, rfl⟩
theorem of_40 (w : World) : Calls Tryd.prog 16 #[.int .i64 40] w fun e w' => e = .returned (.int .u8 3) ∧ w' = w := by
  go_enter Tryd.func16, Tryd.ntmps16
  go_wp2_with fail
  go_ret
  exact ⟨rfl, rfl⟩
theorem of_41 (w : World) : Calls Tryd.prog 16 #[.int .i64 41] w fun e w' => e = .returned (.int .u8 3) ∧ w' = w := by
  go_enter Tryd.func16, Tryd.ntmps16
  go_wp2_with fail
  go_ret
  exact ⟨rfl, rfl⟩
theorem of_46 (w : World) : Calls Tryd.prog 16 #[.int .i64 46] w fun e w' => e = .returned (.int .u8 3) ∧ w' = w := by
  go_enter Tryd.func16, Tryd.ntmps16
  go_wp2_with fail
  go_ret
  exact ⟨rfl, rfl⟩
theorem of_47 (w : World) : Calls Tryd.prog 16 #[.int .i64 47] w fun e w' => e = .returned (.int .u8 3) ∧ w' = w := by
  go_enter Tryd.func16, Tryd.ntmps16
  go_wp2_with fail
  go_ret
  exact ⟨rfl, rfl⟩
theorem of_48 (w : World) : Calls Tryd.prog 16 #[.int .i64 48] w fun e w' => e = .returned (.int .u8 3) ∧ w' = w := by
  go_enter Tryd.func16, Tryd.ntmps16
  go_wp2_with fail
  go_ret
  exact ⟨rfl, rfl⟩
theorem of_49 (w : World) : Calls Tryd.prog 16 #[.int .i64 49] w fun e w' => e = .returned (.int .u8 3) ∧ w' = w := by
  go_enter Tryd.func16, Tryd.ntmps16
  go_wp2_with fail
  go_ret
  exact ⟨rfl, rfl⟩
theorem of_50 (w : World) : Calls Tryd.prog 16 #[.int .i64 50] w fun e w' => e = .returned (.int .u8 3) ∧ w' = w := by
  go_enter Tryd.func16, Tryd.ntmps16
  go_wp2_with fail
  go_ret
  exact ⟨rfl, rfl⟩
theorem of_51 (w : World) : Calls Tryd.prog 16 #[.int .i64 51] w fun e w' => e = .returned (.int .u8 3) ∧ w' = w := by
  go_enter Tryd.func16, Tryd.ntmps16
  go_wp2_with fail
  go_ret
  exact ⟨rfl, rfl⟩
theorem of_any (n : Int) (w : World) : Calls Tryd.prog 16 #[.int .i64 n] w fun e w' => e = .returned (.int .u8 (ofC n)) ∧ w' = w := by
  by_cases h : n = 1 ∨ n = 2 ∨ n = 4 ∨ n = 8 ∨ n = 42 ∨ n = 43 ∨ n = 44 ∨ n = 45 ∨ n = 52 ∨ n = 5 ∨ n = 6 ∨ n = 40 ∨ n = 41 ∨ n = 46 ∨ n = 47 ∨ n = 48 ∨ n = 49 ∨ n = 50 ∨ n = 51
  · rcases h with rfl | rfl | rfl | rfl | rfl | rfl | rfl | rfl | rfl | rfl | rfl | rfl | rfl | rfl | rfl | rfl | rfl | rfl | rfl
    · exact of_1 w
    · exact of_2 w
    · exact of_4 w
    · exact of_8 w
    · exact of_42 w
    · exact of_43 w
    · exact of_44 w
    · exact of_45 w
    · exact of_52 w
    · exact of_5 w
    · exact of_6 w
    · exact of_40 w
    · exact of_41 w
    · exact of_46 w
    · exact of_47 w
    · exact of_48 w
    · exact of_49 w
    · exact of_50 w
    · exact of_51 w
  · have e : ofC n = 0 := by unfold ofC; rw [if_neg (by omega), if_neg (by omega), if_neg (by omega), if_neg (by omega)]
    rw [e]
    exact of_other n w h
theorem ofC_le (n : Int) : ofC n ≤ 4 := by unfold ofC; (repeat' split) <;> omega

set_option maxHeartbeats 4000000 in
theorem in_int (l : List Wr) (n : Int) (v : Value) (c : Nat) (hc4 : c < 256) (w : World) (hc : Chn w (.iface 23 (.int .i64 n)) l v) (he : ErrT w) :
    Calls Tryd.prog 17 #[v, .int .u8 c] w fun e w' => e = .returned (.bool (decide (ofC n = c))) ∧ Below w.heap.size w w' := by
  have HC := Lib.hid (code_int l n v w hc he)
  have HO := fun w => of_any n w
  clear hc he
  go_enter Tryd.func17, Tryd.ntmps17
  go_wp2_with fail
  refine HC.out.mono ?_
  rintro e w1 ⟨rfl, hb⟩
  have HB := Lib.hid hb
  clear HC hb
  go_wp2_with fail
  refine (HO _).mono ?_
  rintro e w2 ⟨rfl, rfl⟩
  obtain ⟨q, hq⟩ : ∃ q, ofC n = q := ⟨_, rfl⟩
  rw [hq]
  have HQ := Lib.hid hq
  clear HO hq
  go_wp2_with fail
  go_ret
  refine ⟨?_, HB.out⟩
  rw [HQ.out]
  by_cases h : q = c
  · subst h; simp
  · have h1 : ((q : Int) == (c : Int)) = false := by rw [beq_eq_false_iff_ne]; omega
    simp [h, h1]
set_option maxHeartbeats 4000000 in
theorem in_own (l : List Wr) (v : Value) (c : Nat) (w : World) (hc : Chn w (.iface 44 (.agg #[])) l v) (he : ErrT w) :
    Calls Tryd.prog 17 #[v, .int .u8 c] w fun e w' => e = .returned (.bool (decide (c = 0))) ∧ Below w.heap.size w w' := by
  have HC := Lib.hid (code_own l v w hc he)
  clear hc he
  go_enter Tryd.func17, Tryd.ntmps17
  go_wp2_with fail
  refine HC.out.mono ?_
  rintro e w1 ⟨rfl, hb⟩
  have HB := Lib.hid hb
  clear HC hb
  go_wp2_with fail
  go_ret
  refine ⟨?_, HB.out⟩
  by_cases h : c = 0
  · subst h; simp
  · simp [h]
set_option maxHeartbeats 4000000 in
theorem in_nil (c : Nat) (w : World) : Calls Tryd.prog 17 #[.nilIface, .int .u8 c] w fun e w' => e = .returned (.bool (decide (c = 0))) ∧ Below w.heap.size w w' := by
  go_enter Tryd.func17, Tryd.ntmps17
  go_wp2_with fail
  refine (code_nil _).mono ?_
  rintro e w1 ⟨rfl, hb⟩
  have HB := Lib.hid hb
  clear hb
  go_wp2_with fail
  go_ret
  refine ⟨?_, HB.out⟩
  by_cases h : c = 0
  · subst h; simp
  · simp [h]

end Go.Proofs.YtabjpnggihginaaDoor
