/- The walk over souklaw01.CrcBoth. -/
import Derived.Test.YtdcfefhlhphdiaaTimesW
import Derived.Test.YtdcfefhlhphdiaaCrcBackW
import Derived.Test.YtdcfefhlhphdiaaCrcAwake
namespace Go.Proofs.Ytdcfefhlhphdiaa
open Go.RowKit

theorem both_to (a b d : BitVec 32) (n : Nat) (k : Int) (w : World) (hk : k = n) (hn : n < 9223372036854775808) (h : both a b n = d) :
    Calls Try.prog 20 #[.int .u32 a.toNat, .int .u32 b.toNat, .int .i64 k] w fun e w' => e = .returned (.int .u32 d.toNat) ∧ w = w' := by
  subst h; subst hk; exact both_any a b n w hn
theorem wf_u16 {a : Int} (h : (Lit.int .u16 a).wf = true) : ∃ n : Nat, a = (n : Int) ∧ n ≤ 65535 := by
  have h' : 0 ≤ a ∧ a ≤ 65535 := by simpa [Lit.wf, IntKind.min, IntKind.max, IntKind.signed, IntKind.bits] using h
  exact ⟨a.toNat, by omega, by omega⟩

set_option maxHeartbeats 400000 in
theorem bothl_big (s t : ByteArray) (a b c : BitVec 32) (n m : Nat) (w : World) (h : 3000 < s.size ∨ 3000 < t.size) :
    Calls Try.prog 8 #[.string s, .string t, .int .u32 a.toNat, .int .u32 b.toNat, .int .u32 c.toNat, .int .u16 n, .int .u16 m] w fun e w' => e = .returned (.bool true) ∧ Below w.heap.size w w' := by
  by_cases h1 : 3000 < s.size
  · clear h
    go_enter Try.func8, Try.ntmps8
    go_wp2_with fail
    with_reducible refine (awake_any _).mono ?_
    rintro e w1 ⟨rfl, hb1⟩
    go_wp2_with fail
    go_ret
    exact ⟨rfl, hb1⟩
  · have h2 : 3000 < t.size := by omega
    clear h
    go_enter Try.func8, Try.ntmps8
    go_wp2_with fail
    with_reducible refine (awake_any _).mono ?_
    rintro e w1 ⟨rfl, hb1⟩
    go_wp2_with fail
    go_ret
    exact ⟨rfl, hb1⟩

set_option maxHeartbeats 1000000 in
theorem bothl_small (s t : ByteArray) (a b c : BitVec 32) (n m : Nat) (w : World) (h1 : s.size ≤ 3000) (h2 : t.size ≤ 3000) (hn : n ≤ 65535) (hm : m ≤ 65535) :
    Calls Try.prog 8 #[.string s, .string t, .int .u32 a.toNat, .int .u32 b.toNat, .int .u32 c.toNat, .int .u16 n, .int .u16 m] w fun e w' => e = .returned (.bool true) ∧ Below w.heap.size w w' := by
  obtain ⟨c1, g1⟩ : ∃ d, crc s.data.toList = d := ⟨_, rfl⟩
  obtain ⟨c2, g2⟩ : ∃ d, crc t.data.toList = d := ⟨_, rfl⟩
  obtain ⟨c3, g3⟩ : ∃ d, add c1 t.data.toList = d := ⟨_, rfl⟩
  obtain ⟨c4, g4⟩ : ∃ d, add a t.data.toList = d := ⟨_, rfl⟩
  obtain ⟨d1, k1⟩ : ∃ d, both a b n = d := ⟨_, rfl⟩
  obtain ⟨d2, k2⟩ : ∃ d, both d1 c m = d := ⟨_, rfl⟩
  obtain ⟨d3, k3⟩ : ∃ d, both b c m = d := ⟨_, rfl⟩
  have hl : t.data.toList.length = t.size := by simp
  have b1 := Lib.hid (show both c1 c2 t.size = c3 by rw [← g2, ← hl, add_both]; exact g3)
  have b2 := Lib.hid (show crc (s ++ t).data.toList = c3 by rw [data_app, ← g3, ← g1]; exact add_append _ _ _)
  have b3 := Lib.hid (show both a c2 t.size = c4 by rw [← g2, ← hl, add_both]; exact g4)
  have b4 := Lib.hid (show both a d3 (n + m) = d2 by rw [← k3, ← both_assoc, k1]; exact k2)
  have G1 := Lib.hid g1
  have G2 := Lib.hid g2
  have G4 := Lib.hid g4
  have K1 := Lib.hid k1
  have K2 := Lib.hid k2
  have K3 := Lib.hid k3
  have L1 := Lib.hid (show s.size ≤ 1000000000 by omega)
  have L2 := Lib.hid (show t.size ≤ 1000000000 by omega)
  have L3 := Lib.hid (show (s ++ t).size ≤ 1000000000 by simp; omega)
  have T1 := Lib.hid (show t.size < 9223372036854775808 by omega)
  have T2 := Lib.hid (show n < 9223372036854775808 by omega)
  have T3 := Lib.hid (show m < 9223372036854775808 by omega)
  have T4 := Lib.hid (show n + m < 9223372036854775808 by omega)
  clear g1 g2 g3 g4 k1 k2 k3 hl
  go_enter Try.func8, Try.ntmps8
  go_wp2_with fail
  with_reducible refine (awake_any _).mono ?_
  rintro e w1 ⟨rfl, hb1⟩
  go_wp2_with fail
  with_reducible refine (of_to _ _ _ L1.out G1.out).mono ?_
  rintro e w2 ⟨rfl, hb2⟩
  go_wp2_with fail
  with_reducible refine (of_to _ _ _ L2.out G2.out).mono ?_
  rintro e w3 ⟨rfl, hb3⟩
  go_wp2_with fail
  with_reducible refine (both_to _ _ _ _ _ _ rfl T1.out b1.out).mono ?_
  rintro e w4 ⟨rfl, rfl⟩
  go_wp2_with fail
  with_reducible refine (of_to _ _ _ L3.out b2.out).mono ?_
  rintro e w5 ⟨rfl, hb5⟩
  go_wp2_with fail
  with_reducible refine (of_to _ _ _ L2.out G2.out).mono ?_
  rintro e w6 ⟨rfl, hb6⟩
  go_wp2_with fail
  with_reducible refine (both_to _ _ _ _ _ _ rfl T1.out b3.out).mono ?_
  rintro e w7 ⟨rfl, rfl⟩
  go_wp2_with fail
  with_reducible refine (add_to _ _ _ _ L2.out G4.out).mono ?_
  rintro e w8 ⟨rfl, hb8⟩
  go_wp2_with fail
  with_reducible refine (both_to _ _ _ _ _ _ rfl T2.out K1.out).mono ?_
  rintro e w9 ⟨rfl, rfl⟩
  go_wp2_with fail
  with_reducible refine (both_to _ _ _ _ _ _ rfl T3.out K2.out).mono ?_
  rintro e w10 ⟨rfl, rfl⟩
  go_wp2_with fail
  with_reducible refine (both_to _ _ _ _ _ _ rfl T3.out K3.out).mono ?_
  rintro e w11 ⟨rfl, rfl⟩
  go_wp2_with fail
  with_reducible refine (both_to _ _ _ _ _ _ (Int.natCast_add n m).symm T4.out b4.out).mono ?_
  rintro e w12 ⟨rfl, rfl⟩
  go_wp2_with fail
  go_ret
  exact ⟨rfl, bel_trans (bel_trans (bel_trans (bel_trans (bel_trans (hb1) hb2) hb3) hb5) hb6) hb8⟩

theorem bothl_law (s t : ByteArray) (a b c n m : Int) (w : World) (ha : (Lit.int .u32 a).wf = true) (hb : (Lit.int .u32 b).wf = true) (hc : (Lit.int .u32 c).wf = true) (hn : (Lit.int .u16 n).wf = true) (hm : (Lit.int .u16 m).wf = true) :
    Calls Try.prog 8 #[.string s, .string t, .int .u32 a, .int .u32 b, .int .u32 c, .int .u16 n, .int .u16 m] w fun e w' => e = .returned (.bool true) ∧ Below w.heap.size w w' := by
  obtain ⟨a, rfl⟩ := wf_u32 ha
  obtain ⟨b, rfl⟩ := wf_u32 hb
  obtain ⟨c, rfl⟩ := wf_u32 hc
  obtain ⟨n, rfl, hn'⟩ := wf_u16 hn
  obtain ⟨m, rfl, hm'⟩ := wf_u16 hm
  by_cases h : s.size ≤ 3000 ∧ t.size ≤ 3000
  · exact bothl_small s t a b c n m w h.1 h.2 hn' hm'
  · exact bothl_big s t a b c n m w (by omega)

end Go.Proofs.Ytdcfefhlhphdiaa
