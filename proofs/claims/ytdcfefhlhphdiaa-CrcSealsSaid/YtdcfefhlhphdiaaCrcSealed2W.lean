/- The walk over souklaw01.CrcSealed. -/
import Derived.Test.YtdcfefhlhphdiaaCrcSealedW
namespace Go.Proofs.Ytdcfefhlhphdiaa
open Go.RowKit

theorem open_to (x y : ByteArray) (w : World) (hs : x.size ≤ 1000000000) (h : 4 ≤ x.size) (hy : isSealed x.data.toList = true) (e : x.extract 0 (x.size - 4) = y) :
    Calls Try.prog 16 #[.string x] w fun e w' => e = .returned (.tuple #[.string y, .int .i64 0]) ∧ Below w.heap.size w w' := by
  subst e; exact open_yes x w hs h hy
theorem of_num (s : ByteArray) (n : Int) (d : BitVec 32) (w : World) (hs : s.size ≤ 1000000000) (h : crc s.data.toList = d) (hd : (d.toNat : Int) = n) :
    Calls Try.prog 13 #[.string s] w fun e w' => e = .returned (.int .u32 n) ∧ Below w.heap.size w w' := by
  subst h; subst hd; exact of_str s w hs
theorem bs_data (l : List UInt8) : (bs l).data.toList = l := by unfold bs; simp
theorem size_bs (l : List UInt8) : (bs l).size = l.length := by unfold bs; simp [ByteArray.size]
theorem bs_of (s : ByteArray) : bs s.data.toList = s := by unfold bs; simp
theorem ba_ext {s t : ByteArray} (h : s.data.toList = t.data.toList) : s = t := by rw [← bs_of s, h, bs_of]

attribute [local go_sem] toList_bs

set_option maxHeartbeats 400000 in
theorem sealed_big (s t : ByteArray) (w : World) (h : 3000 < s.size ∨ 3000 < t.size) :
    Calls Try.prog 5 #[.string s, .string t] w fun e w' => e = .returned (.bool true) ∧ Below w.heap.size w w' := by
  by_cases h1 : 3000 < s.size
  · clear h
    go_enter Try.func5, Try.ntmps5
    go_wp2_with fail
    refine (awake_any _).mono ?_
    rintro e w1 ⟨rfl, hb1⟩
    go_wp2_with fail
    go_ret
    exact ⟨rfl, hb1⟩
  · have h2 : 3000 < t.size := by omega
    clear h
    go_enter Try.func5, Try.ntmps5
    go_wp2_with fail
    refine (awake_any _).mono ?_
    rintro e w1 ⟨rfl, hb1⟩
    go_wp2_with fail
    go_ret
    exact ⟨rfl, hb1⟩

set_option maxHeartbeats 1000000 in
theorem sealed_small (s t : ByteArray) (w : World) (h1 : s.size ≤ 3000) (h2 : t.size ≤ 3000) :
    Calls Try.prog 5 #[.string s, .string t] w fun e w' => e = .returned (.bool true) ∧ Below w.heap.size w w' := by
  obtain ⟨x, hx⟩ : ∃ x, bs (sealL s.data.toList) = x := ⟨_, rfl⟩
  have hxd : x.data.toList = sealL s.data.toList := by rw [← hx, bs_data]
  have hxs : x.size = s.size + 4 := by rw [← hx, size_bs, length_seal]; simp
  have L1 := Lib.hid (show s.size ≤ 1000000000 by omega)
  have L2 := Lib.hid (show t.size ≤ 1000000000 by omega)
  have L3 := Lib.hid (show x.size ≤ 1000000000 by omega)
  have L4 := Lib.hid (show 4 ≤ x.size by omega)
  have K1 := Lib.hid (show isSealed x.data.toList = true by rw [hxd]; exact isSealed_seal _)
  have K2 := Lib.hid (show x.extract 0 (x.size - 4) = s by
    apply ba_ext
    rw [← take_seal s.data.toList, ← hxd]
    simp [hxs])
  have K3 := Lib.hid (show crc x.data.toList = 0x2144DF1C#32 by rw [hxd]; exact crc_seal _)
  have HX := Lib.hid hx
  clear hx hxd
  by_cases ht : t.size < 4
  · have hd : decide ((t.size : Int) < 4) = true := by simp; omega
    go_enter Try.func5, Try.ntmps5
    go_wp2_with fail
    refine (awake_any _).mono ?_
    rintro e w1 ⟨rfl, hb1⟩
    go_wp2_with fail
    with_reducible refine (seal_to _ _ _ L1.out HX.out).mono ?_
    rintro e w2 ⟨rfl, hb2⟩
    go_wp2_with fail
    with_reducible refine (open_to _ _ _ L3.out L4.out K1.out K2.out).mono ?_
    rintro e w3 ⟨rfl, hb3⟩
    go_wp2_with fail
    with_reducible refine (seal_to _ _ _ L1.out HX.out).mono ?_
    rintro e w4 ⟨rfl, hb4⟩
    go_wp2_with fail
    with_reducible refine (seal_to _ _ _ L1.out HX.out).mono ?_
    rintro e w5 ⟨rfl, hb5⟩
    go_wp2_with fail
    with_reducible refine (of_num _ 558161692 _ _ L3.out K3.out (by decide)).mono ?_
    rintro e w6 ⟨rfl, hb6⟩
    go_wp2_with fail
    with_reducible refine (open_short _ _ ht).mono ?_
    rintro e w7 ⟨rfl, hb7⟩
    go_wp2_with fail
    go_ret
    exact ⟨rfl, bel_trans (bel_trans (bel_trans (bel_trans (bel_trans (bel_trans hb1 hb2) hb3) hb4) hb5) hb6) hb7⟩
  by_cases hy : isSealed t.data.toList = true
  · have K4 := Lib.hid (show isSealed t.data.toList = true from hy)
    have K5 := Lib.hid (show 4 ≤ t.size by omega)
    have hy' : sealL (t.extract 0 (t.size - 4)).data.toList = t.data.toList := by
      have := hy
      unfold isSealed at this
      simpa using this
    have hz : (t.extract 0 (t.size - 4)).size ≤ 1000000000 := by simp; omega
    obtain ⟨y, e⟩ : ∃ y, t.extract 0 (t.size - 4) = y := ⟨_, rfl⟩
    rw [e] at hy' hz
    have K6 := Lib.hid e
    have K7 := Lib.hid hz
    have K8 := Lib.hid (show bs (sealL y.data.toList) = t by apply ba_ext; rw [bs_data]; exact hy')
    clear hy hy' hz e
    go_enter Try.func5, Try.ntmps5
    go_wp2_with fail
    refine (awake_any _).mono ?_
    rintro e w1 ⟨rfl, hb1⟩
    go_wp2_with fail
    with_reducible refine (seal_to _ _ _ L1.out HX.out).mono ?_
    rintro e w2 ⟨rfl, hb2⟩
    go_wp2_with fail
    with_reducible refine (open_to _ _ _ L3.out L4.out K1.out K2.out).mono ?_
    rintro e w3 ⟨rfl, hb3⟩
    go_wp2_with fail
    with_reducible refine (seal_to _ _ _ L1.out HX.out).mono ?_
    rintro e w4 ⟨rfl, hb4⟩
    go_wp2_with fail
    with_reducible refine (seal_to _ _ _ L1.out HX.out).mono ?_
    rintro e w5 ⟨rfl, hb5⟩
    go_wp2_with fail
    with_reducible refine (of_num _ 558161692 _ _ L3.out K3.out (by decide)).mono ?_
    rintro e w6 ⟨rfl, hb6⟩
    go_wp2_with fail
    with_reducible refine (open_to t y _ L2.out K5.out K4.out K6.out).mono ?_
    rintro e w7 ⟨rfl, hb7⟩
    go_wp2_with fail
    with_reducible refine (seal_to _ _ _ K7.out K8.out).mono ?_
    rintro e w8 ⟨rfl, hb8⟩
    go_wp2_with fail
    go_ret
    exact ⟨rfl, bel_trans (bel_trans (bel_trans (bel_trans (bel_trans (bel_trans (bel_trans hb1 hb2) hb3) hb4) hb5) hb6) hb7) hb8⟩
  · have K4 := Lib.hid (show isSealed t.data.toList = false by simpa using hy)
    have K5 := Lib.hid (show 4 ≤ t.size by omega)
    have hd : decide ((t.size : Int) < 4) = false := by simp; omega
    clear hy
    go_enter Try.func5, Try.ntmps5
    go_wp2_with fail
    refine (awake_any _).mono ?_
    rintro e w1 ⟨rfl, hb1⟩
    go_wp2_with fail
    with_reducible refine (seal_to _ _ _ L1.out HX.out).mono ?_
    rintro e w2 ⟨rfl, hb2⟩
    go_wp2_with fail
    with_reducible refine (open_to _ _ _ L3.out L4.out K1.out K2.out).mono ?_
    rintro e w3 ⟨rfl, hb3⟩
    go_wp2_with fail
    with_reducible refine (seal_to _ _ _ L1.out HX.out).mono ?_
    rintro e w4 ⟨rfl, hb4⟩
    go_wp2_with fail
    with_reducible refine (seal_to _ _ _ L1.out HX.out).mono ?_
    rintro e w5 ⟨rfl, hb5⟩
    go_wp2_with fail
    with_reducible refine (of_num _ 558161692 _ _ L3.out K3.out (by decide)).mono ?_
    rintro e w6 ⟨rfl, hb6⟩
    go_wp2_with fail
    with_reducible refine (open_no t _ L2.out K5.out K4.out).mono ?_
    rintro e w7 ⟨rfl, hb7⟩
    go_wp2_with fail
    go_ret
    exact ⟨rfl, bel_trans (bel_trans (bel_trans (bel_trans (bel_trans (bel_trans hb1 hb2) hb3) hb4) hb5) hb6) hb7⟩

theorem sealed_law (s t : ByteArray) (w : World) :
    Calls Try.prog 5 #[.string s, .string t] w fun e w' => e = .returned (.bool true) ∧ Below w.heap.size w w' := by
  by_cases h : s.size ≤ 3000 ∧ t.size ≤ 3000
  · exact sealed_small s t w h.1 h.2
  · exact sealed_big s t w (by omega)

end Go.Proofs.Ytdcfefhlhphdiaa
