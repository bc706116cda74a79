/- Walks over package crc: Back, Open. -/
import Derived.Test.YtdcfefhlhphdiaaCrcBk
namespace Go.Proofs.Ytdcfefhlhphdiaa
open Go.RowKit

set_option maxHeartbeats 400000 in
theorem backs_str (c : BitVec 32) (s : ByteArray) (w : World) (hs : s.size ≤ 1000000000) :
    Calls Try.prog 17 #[.int .u32 c.toNat, .string s] w
      fun e w' => e = .returned (.int .u32 (back c s.data.toList).toNat) ∧ Below w.heap.size w w' := by
  go_enter Try.func17, Try.ntmps17
  go_wp2_with fail
  with_reducible refine (table_any _).mono ?_
  rintro e w1 ⟨rfl, hb1⟩
  go_wp2_with fail
  with_reducible refine (back_str _ _ _ hs).mono ?_
  rintro e w2 ⟨rfl, hb2⟩
  go_wp2_with fail
  go_ret
  exact ⟨rfl, hb1.trans (hb2.mono hb1.size)⟩

def isSealed (l : List UInt8) : Bool := sealL (l.take (l.length - 4)) == l

theorem toList_bs (l : List UInt8) : (bs l).toList = l := by unfold bs; simp

set_option maxHeartbeats 400000 in
theorem open_short (s : ByteArray) (w : World) (h : s.size < 4) :
    Calls Try.prog 16 #[.string s] w
      fun e w' => e = .returned (.tuple #[.string (bs []), .int .i64 8]) ∧ Below w.heap.size w w' := by
  go_enter Try.func16, Try.ntmps16
  go_wp2_with fail
  go_ret2
  exact ⟨rfl, Below.refl _ _⟩

set_option maxHeartbeats 400000 in
theorem open_yes (s : ByteArray) (w : World) (hs : s.size ≤ 1000000000) (h : 4 ≤ s.size) (hy : isSealed s.data.toList = true) :
    Calls Try.prog 16 #[.string s] w
      fun e w' => e = .returned (.tuple #[.string (s.extract 0 (s.size - 4)), .int .i64 0]) ∧ Below w.heap.size w w' := by
  have HY := Lib.hid hy
  clear hy
  obtain ⟨n, hn⟩ : ∃ n, n = s.size - 4 := ⟨_, rfl⟩
  have e1 : (s.size : Int) - 4 = (n : Int) := by omega
  have h1 : n ≤ s.size := by omega
  have hs1 : (s.extract 0 n).size ≤ 1000000000 := by simp; omega
  have HS := Lib.hid hs1
  rw [← hn]
  have HN := Lib.hid hn
  clear hn hs1
  go_enter Try.func16, Try.ntmps16
  go_wp2_with fail
  go_outline
  refine (seal_str (s.extract 0 n) _ HS.out).mono ?_
  rintro e w1 ⟨rfl, hb1⟩
  obtain ⟨x, hx⟩ : ∃ x, x = bs (sealL (s.extract 0 n).data.toList) := ⟨_, rfl⟩
  rw [← hx]
  have hc : (x.toList == s.toList) = true := by
    have := HY.out
    unfold isSealed at this
    rw [hx, toList_bs, ByteArray.toList_eq]
    simpa [HN.out] using this
  clear hx
  go_wp2_with fail
  go_ret2
  exact ⟨rfl, hb1⟩

set_option maxHeartbeats 400000 in
theorem open_no (s : ByteArray) (w : World) (hs : s.size ≤ 1000000000) (h : 4 ≤ s.size) (hy : isSealed s.data.toList = false) :
    Calls Try.prog 16 #[.string s] w
      fun e w' => e = .returned (.tuple #[.string (bs []), .int .i64 42]) ∧ Below w.heap.size w w' := by
  have HY := Lib.hid hy
  clear hy
  obtain ⟨n, hn⟩ : ∃ n, n = s.size - 4 := ⟨_, rfl⟩
  have e1 : (s.size : Int) - 4 = (n : Int) := by omega
  have h1 : n ≤ s.size := by omega
  have hs1 : (s.extract 0 n).size ≤ 1000000000 := by simp; omega
  have HS := Lib.hid hs1
  have HN := Lib.hid hn
  clear hn hs1
  go_enter Try.func16, Try.ntmps16
  go_wp2_with fail
  refine (seal_str (s.extract 0 n) _ HS.out).mono ?_
  rintro e w1 ⟨rfl, hb1⟩
  obtain ⟨x, hx⟩ : ∃ x, x = bs (sealL (s.extract 0 n).data.toList) := ⟨_, rfl⟩
  rw [← hx]
  have hc : (x.toList == s.toList) = false := by
    have := HY.out
    unfold isSealed at this
    rw [hx, toList_bs, ByteArray.toList_eq]
    simpa [HN.out] using this
  clear hx
  go_wp2_with fail
  go_ret2
  exact ⟨rfl, hb1⟩

end Go.Proofs.Ytdcfefhlhphdiaa
