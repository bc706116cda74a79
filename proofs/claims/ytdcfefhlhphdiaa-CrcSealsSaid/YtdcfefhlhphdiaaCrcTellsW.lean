/- The walk over souklaw01.CrcTells. -/
import Derived.Test.YtdcfefhlhphdiaaRefE
import Derived.Test.YtdcfefhlhphdiaaCrcBothW
namespace Go.Proofs.Ytdcfefhlhphdiaa
open Go.RowKit

theorem radd_to (c d : BitVec 32) (s : ByteArray) (w : World) (hs : s.size ≤ 1000000000) (h : add c s.data.toList = d) :
    Calls Try.prog 25 #[.int .u32 c.toNat, .string s] w fun e w' => e = .returned (.int .u32 d.toNat) ∧ w = w' := by
  subst h; exact radd_str c s w hs
theorem rback_to (c d : BitVec 32) (s : ByteArray) (w : World) (hs : s.size ≤ 1000000000) (h : back c s.data.toList = d) :
    Calls Try.prog 26 #[.int .u32 c.toNat, .string s] w fun e w' => e = .returned (.int .u32 d.toNat) ∧ w = w' := by
  subst h; exact rback_str c s w hs
theorem rboth_to (a b d : BitVec 32) (n : Nat) (w : World) (hn : n < 9223372036854775808) (h : both a b n = d) :
    Calls Try.prog 27 #[.int .u32 a.toNat, .int .u32 b.toNat, .int .i64 n] w fun e w' => e = .returned (.int .u32 d.toNat) ∧ Below w.heap.size w w' := by
  subst h; exact rboth_any a b n w hn
set_option maxHeartbeats 400000 in
theorem rboth_neg (a b : BitVec 32) (n : Int) (w : World) (hn : n < 0) :
    Calls Try.prog 27 #[.int .u32 a.toNat, .int .u32 b.toNat, .int .i64 n] w fun e w' => e = .returned (.int .u32 0) ∧ w = w' := by
  go_enter Try.func27, Try.ntmps27
  go_wp2_with fail
  go_ret
  exact ⟨rfl, rfl⟩

set_option maxHeartbeats 400000 in
theorem tells_big (s : ByteArray) (a b : BitVec 32) (n : Int) (w : World) (h : 3000 < s.size) :
    Calls Try.prog 10 #[.string s, .int .u32 a.toNat, .int .u32 b.toNat, .int .i64 n] w fun e w' => e = .returned (.bool true) ∧ Below w.heap.size w w' := by
  go_enter Try.func10, Try.ntmps10
  go_wp2_with fail
  with_reducible refine (awake_any _).mono ?_
  rintro e w1 ⟨rfl, hb1⟩
  go_wp2_with fail
  go_ret
  exact ⟨rfl, hb1⟩

set_option maxHeartbeats 1000000 in
theorem tells_neg (s : ByteArray) (a b : BitVec 32) (n : Int) (w : World) (h : s.size ≤ 3000) (hn : n < 0) :
    Calls Try.prog 10 #[.string s, .int .u32 a.toNat, .int .u32 b.toNat, .int .i64 n] w fun e w' => e = .returned (.bool true) ∧ Below w.heap.size w w' := by
  have L1 := Lib.hid (show s.size ≤ 1000000000 by omega)
  obtain ⟨c1, g1⟩ : ∃ d, crc s.data.toList = d := ⟨_, rfl⟩
  obtain ⟨c2, g2⟩ : ∃ d, add a s.data.toList = d := ⟨_, rfl⟩
  obtain ⟨c3, g3⟩ : ∃ d, back a s.data.toList = d := ⟨_, rfl⟩
  have G1 := Lib.hid g1
  have G2 := Lib.hid g2
  have G3 := Lib.hid g3
  clear g1 g2 g3
  go_enter Try.func10, Try.ntmps10
  go_wp2_with fail
  with_reducible refine (of_to _ _ _ L1.out G1.out).mono ?_
  rintro e w1 ⟨rfl, hb1⟩
  go_wp2_with fail
  with_reducible refine (rof_to _ _ _ L1.out G1.out).mono ?_
  rintro e w2 ⟨rfl, rfl⟩
  go_wp2_with fail
  with_reducible refine (add_to _ _ _ _ L1.out G2.out).mono ?_
  rintro e w3 ⟨rfl, hb3⟩
  go_wp2_with fail
  with_reducible refine (radd_to _ _ _ _ L1.out G2.out).mono ?_
  rintro e w4 ⟨rfl, rfl⟩
  go_wp2_with fail
  with_reducible refine (back_to _ _ _ _ L1.out G3.out).mono ?_
  rintro e w5 ⟨rfl, hb5⟩
  go_wp2_with fail
  with_reducible refine (rback_to _ _ _ _ L1.out G3.out).mono ?_
  rintro e w6 ⟨rfl, rfl⟩
  go_wp2_with fail
  with_reducible refine (both_neg _ _ _ _ hn).mono ?_
  rintro e w7 ⟨rfl, rfl⟩
  go_wp2_with fail
  with_reducible refine (rboth_neg _ _ _ _ hn).mono ?_
  rintro e w8 ⟨rfl, rfl⟩
  go_wp2_with fail
  with_reducible refine (awake_any _).mono ?_
  rintro e w9 ⟨rfl, hb9⟩
  go_wp2_with fail
  go_ret
  exact ⟨rfl, bel_trans (bel_trans (bel_trans (hb1) hb3) hb5) hb9⟩

set_option maxHeartbeats 1000000 in
theorem tells_pos (s : ByteArray) (a b : BitVec 32) (n : Nat) (w : World) (h : s.size ≤ 3000) (hn : n < 9223372036854775808) :
    Calls Try.prog 10 #[.string s, .int .u32 a.toNat, .int .u32 b.toNat, .int .i64 n] w fun e w' => e = .returned (.bool true) ∧ Below w.heap.size w w' := by
  have L1 := Lib.hid (show s.size ≤ 1000000000 by omega)
  obtain ⟨c1, g1⟩ : ∃ d, crc s.data.toList = d := ⟨_, rfl⟩
  obtain ⟨c2, g2⟩ : ∃ d, add a s.data.toList = d := ⟨_, rfl⟩
  obtain ⟨c3, g3⟩ : ∃ d, back a s.data.toList = d := ⟨_, rfl⟩
  have G1 := Lib.hid g1
  have G2 := Lib.hid g2
  have G3 := Lib.hid g3
  clear g1 g2 g3
  obtain ⟨c4, g4⟩ : ∃ d, both a b n = d := ⟨_, rfl⟩
  have G4 := Lib.hid g4
  have HN := Lib.hid hn
  clear g4 hn
  go_enter Try.func10, Try.ntmps10
  go_wp2_with fail
  with_reducible refine (of_to _ _ _ L1.out G1.out).mono ?_
  rintro e w1 ⟨rfl, hb1⟩
  go_wp2_with fail
  with_reducible refine (rof_to _ _ _ L1.out G1.out).mono ?_
  rintro e w2 ⟨rfl, rfl⟩
  go_wp2_with fail
  with_reducible refine (add_to _ _ _ _ L1.out G2.out).mono ?_
  rintro e w3 ⟨rfl, hb3⟩
  go_wp2_with fail
  with_reducible refine (radd_to _ _ _ _ L1.out G2.out).mono ?_
  rintro e w4 ⟨rfl, rfl⟩
  go_wp2_with fail
  with_reducible refine (back_to _ _ _ _ L1.out G3.out).mono ?_
  rintro e w5 ⟨rfl, hb5⟩
  go_wp2_with fail
  with_reducible refine (rback_to _ _ _ _ L1.out G3.out).mono ?_
  rintro e w6 ⟨rfl, rfl⟩
  go_wp2_with fail
  with_reducible refine (both_to _ _ _ _ _ _ rfl HN.out G4.out).mono ?_
  rintro e w7 ⟨rfl, rfl⟩
  go_wp2_with fail
  with_reducible refine (rboth_to _ _ _ _ _ HN.out G4.out).mono ?_
  rintro e w8 ⟨rfl, hb8⟩
  go_wp2_with fail
  with_reducible refine (awake_any _).mono ?_
  rintro e w9 ⟨rfl, hb9⟩
  go_wp2_with fail
  go_ret
  exact ⟨rfl, bel_trans (bel_trans (bel_trans (bel_trans (hb1) hb3) hb5) hb8) hb9⟩

theorem tells_law (s : ByteArray) (a b n : Int) (w : World) (ha : (Lit.int .u32 a).wf = true) (hb : (Lit.int .u32 b).wf = true) (hn : (Lit.int .i64 n).wf = true) :
    Calls Try.prog 10 #[.string s, .int .u32 a, .int .u32 b, .int .i64 n] w fun e w' => e = .returned (.bool true) ∧ Below w.heap.size w w' := by
  obtain ⟨a, rfl⟩ := wf_u32 ha
  obtain ⟨b, rfl⟩ := wf_u32 hb
  have h' : -9223372036854775808 ≤ n ∧ n ≤ 9223372036854775807 := by simpa [Lit.wf, IntKind.min, IntKind.max, IntKind.signed, IntKind.bits] using hn
  by_cases h : s.size ≤ 3000
  · by_cases h0 : n < 0
    · exact tells_neg s a b n w h h0
    · obtain ⟨k, rfl⟩ := Int.eq_ofNat_of_zero_le (show 0 ≤ n by omega)
      exact tells_pos s a b k w h (by omega)
  · exact tells_big s a b n w (by omega)

end Go.Proofs.Ytdcfefhlhphdiaa
