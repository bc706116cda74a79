/- Walks over soukref10.Make and soukref10.Scan. -/
import Derived.Test.YtkgcjelipllpdaaRef10S
import Derived.Test.YtkgcjelipllpdaaScan2
import Derived.Laws.AppendOwnNone
namespace Go.Proofs.Ytkgcjelipllpdaa
open Go.RowKit

theorem rfix_to (n k : Nat) (a m : Int) (ha : (n : Int) = a) (hm : (k : Int) = m) (hk : k ≤ 100) (hn : n < 18446744073709551616) (t : ByteArray) (ht : bs (fixL n k) = t) (w : World) :
    Calls Try.prog 39 #[.int .u64 a, .int .i64 m] w fun e w' => e = .returned (.string t) ∧ Below w.heap.size w w' := by
  subst ha hm ht; exact rfix_any k hk n w hn

set_option maxHeartbeats 2000000 in
theorem rmake_any (seq : Int) (s : ByteArray) (w : World) (hs : s.size ≤ 1000000) :
    Calls Try.prog 20 #[.int .i64 seq, .string s] w
      fun e w' => e = .returned (.tuple #[.string (mkS seq s), .int .i64 (mkE seq s)]) ∧ Below w.heap.size w w' := by
  by_cases h1 : seq < 0
  · have d1 : decide (seq < 0) = true := by simp [h1]
    have e1 : mkE seq s = 1 := by simp [mkE, h1]
    have e2 : mkS seq s = ⟨#[]⟩ := by simp [mkS, e1]
    rw [e1, e2]
    go_enter Try.func20, Try.ntmps20
    go_wp2_with fail
    go_ret2
    exact ⟨rfl, Below.refl _ _⟩
  by_cases h2 : 1048576 ≤ seq
  · have d1 : decide (seq < 0) = false := by simp [h1]
    have d2 : decide (1048576 ≤ seq) = true := by simp [h2]
    have e1 : mkE seq s = 1 := by simp [mkE, h2]
    have e2 : mkS seq s = ⟨#[]⟩ := by simp [mkS, e1]
    rw [e1, e2]
    go_enter Try.func20, Try.ntmps20
    go_wp2_with fail
    go_ret2
    exact ⟨rfl, Below.refl _ _⟩
  have d1 : decide (seq < 0) = false := by simp [h1]
  have d2 : decide (1048576 ≤ seq) = false := by simp [h2]
  by_cases h3 : s.size = 0
  · obtain rfl : s = ⟨#[]⟩ := by
      apply ByteArray.ext
      exact Array.eq_empty_of_size_eq_zero h3
    have e1 : mkE seq ⟨#[]⟩ = 4 := by simp [mkE, h1, h2, h3]
    have e2 : mkS seq ⟨#[]⟩ = ⟨#[]⟩ := by simp [mkS, e1]
    rw [e1, e2]
    go_enter Try.func20, Try.ntmps20
    go_wp2_with fail
    go_ret2
    exact ⟨rfl, Below.refl _ _⟩
  have hne : s ≠ ⟨#[]⟩ := by rintro rfl; exact h3 rfl
  have d3 : s.toList.isEmpty = false := by
    rw [Bool.eq_false_iff]; intro h; exact hne (ByteArray.ext (by rw [ByteArray.toList_eq] at h; exact Array.ext' (List.isEmpty_iff.1 h)))
  by_cases h4 : 4096 < s.size
  · have d4 : decide ((4096 : Int) < (s.size : Int)) = true := decide_eq_true (by omega)
    have e1 : mkE seq s = 40 := by simp [mkE, h1, h2, h3, h4]
    have e2 : mkS seq s = ⟨#[]⟩ := by simp [mkS, e1]
    rw [e1, e2]
    go_enter Try.func20, Try.ntmps20
    go_wp2_with fail
    go_ret2
    exact ⟨rfl, Below.refl _ _⟩
  have d4 : decide ((4096 : Int) < (s.size : Int)) = false := decide_eq_false (by omega)
  have e1 : mkE seq s = 0 := by simp [mkE, h1, h2, h3, h4]
  have e2 : mkS seq s = bs (frm seq.toNat s.data.toList) := by simp [mkS, e1]
  rw [e1, e2]
  obtain ⟨n, rfl⟩ : ∃ n : Nat, seq = n := ⟨seq.toNat, by omega⟩
  rw [Int.toNat_natCast]
  have C1 : ((s.size : Int) % 18446744073709551616) = s.size := by omega
  have C2 : ((n : Int) % 18446744073709551616) = n := by omega
  obtain ⟨x, ex⟩ : ∃ x, bs (be4 s.size) = x := ⟨_, rfl⟩
  obtain ⟨y, ey⟩ : ∃ y, bs (be8 n) = y := ⟨_, rfl⟩
  have hx : x.size = 4 := by rw [← ex]; rfl
  have hy : y.size = 8 := by rw [← ey]; rfl
  have K1 := Lib.hid (rfix_to s.size 4 (s.size : Int) 4 rfl rfl (by omega) (by omega) x (by rw [fixL_be4]; exact ex))
  have K2 := Lib.hid (rfix_to n 8 (n : Int) 8 rfl rfl (by omega) (by omega) y (by rw [fixL_be8]; exact ey))
  have hd : (x ++ y ++ s).data.toList = head s.size n ++ s.data.toList := by rw [data_app, data_app, ← ex, ← ey, bs_data, bs_data]; rfl
  obtain ⟨c, ec⟩ : ∃ c, crc (x ++ y ++ s).data.toList = c := ⟨_, rfl⟩
  obtain ⟨t, et⟩ : ∃ t, bs (four c) = t := ⟨_, rfl⟩
  have ht : t.size = 4 := by rw [← et]; rfl
  have K3 := Lib.hid (fun w => of_r (x ++ y ++ s) c w (by rw [ByteArray.size_append, ByteArray.size_append]; omega) ec)
  have K4 := Lib.hid (fun w => low_r c t w et)
  have hfin : x ++ y ++ t ++ s = bs (frm n s.data.toList) := by
    apply ba_ext
    rw [bs_data, data_app, data_app, data_app, ← ex, ← ey, ← et, bs_data, bs_data, bs_data]
    unfold frm
    rw [len_data, ← hd, ec]
    rfl
  have HF := Lib.hid hfin
  have EX := Lib.hid ex
  have hcat1 : ¬ 9223372036854775807 < x.size + y.size := by omega
  clear ex ey et ec hd hfin e1 e2 h1 h2 h3 h4 hne
  go_enter Try.func20, Try.ntmps20
  go_wp2_with fail
  with_reducible refine (K1.out _).mono ?_
  rintro e w1 ⟨rfl, hb1⟩
  go_wp2_with fail
  with_reducible refine (K2.out _).mono ?_
  rintro e w2 ⟨rfl, hb2⟩
  go_wp2_with fail
  with_reducible refine (K3.out _).mono ?_
  rintro e w' ⟨rfl, rfl⟩
  go_wp2_with fail
  with_reducible refine (K4.out _).mono ?_
  rintro e w3 ⟨rfl, hb3⟩
  go_wp2_with fail
  go_ret2
  rw [← HF.out]
  exact ⟨rfl, bel_trans (bel_trans hb1 hb2) hb3⟩

end Go.Proofs.Ytkgcjelipllpdaa
