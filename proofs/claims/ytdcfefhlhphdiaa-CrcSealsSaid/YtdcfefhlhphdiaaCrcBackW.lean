/- The walk over souklaw01.CrcBack. -/
import Derived.Test.YtdcfefhlhphdiaaCrcO
import Derived.Test.YtdcfefhlhphdiaaCrcAwake
namespace Go.Proofs.Ytdcfefhlhphdiaa
open Go.RowKit

theorem wf_u32 {a : Int} (h : (Lit.int .u32 a).wf = true) : ∃ c : BitVec 32, a = (c.toNat : Int) := by
  have h' : 0 ≤ a ∧ a ≤ 4294967295 := by simpa [Lit.wf, IntKind.min, IntKind.max, IntKind.signed, IntKind.bits] using h
  refine ⟨BitVec.ofNat 32 a.toNat, ?_⟩
  rw [BitVec.toNat_ofNat, Nat.mod_eq_of_lt (by omega)]
  omega
theorem add_to (c d : BitVec 32) (s : ByteArray) (w : World) (hs : s.size ≤ 1000000000) (h : add c s.data.toList = d) :
    Calls Try.prog 18 #[.int .u32 c.toNat, .string s] w fun e w' => e = .returned (.int .u32 d.toNat) ∧ Below w.heap.size w w' := by
  subst h; exact add_str c s w hs
theorem back_to (c d : BitVec 32) (s : ByteArray) (w : World) (hs : s.size ≤ 1000000000) (h : back c s.data.toList = d) :
    Calls Try.prog 17 #[.int .u32 c.toNat, .string s] w fun e w' => e = .returned (.int .u32 d.toNat) ∧ Below w.heap.size w w' := by
  subst h; exact backs_str c s w hs
theorem of_to (d : BitVec 32) (s : ByteArray) (w : World) (hs : s.size ≤ 1000000000) (h : crc s.data.toList = d) :
    Calls Try.prog 13 #[.string s] w fun e w' => e = .returned (.int .u32 d.toNat) ∧ Below w.heap.size w w' := by
  subst h; exact of_str s w hs

theorem back_add (c : BitVec 32) (l : List UInt8) : back (add c l) l = c := by unfold back add; rw [nt_nt, bk_run, nt_nt]
theorem add_back (c : BitVec 32) (l : List UInt8) : add (back c l) l = c := by unfold back add; rw [nt_nt, run_bk, nt_nt]
theorem add_append (c : BitVec 32) (l m : List UInt8) : add c (l ++ m) = add (add c l) m := by unfold add; rw [nt_nt, run_append]
theorem back_append (c : BitVec 32) (l m : List UInt8) : back c (l ++ m) = back (back c m) l := by unfold back; rw [nt_nt, bk_append]
theorem add_nil (c : BitVec 32) : add c [] = c := by unfold add; exact nt_nt c
theorem back_nil (c : BitVec 32) : back c [] = c := by unfold back; exact nt_nt c
theorem data_app (s t : ByteArray) : (s ++ t).data.toList = s.data.toList ++ t.data.toList := by simp

set_option maxHeartbeats 400000 in
theorem back_big (c : BitVec 32) (s t : ByteArray) (w : World) (h : 3000 < s.size ∨ 3000 < t.size) :
    Calls Try.prog 6 #[.int .u32 c.toNat, .string s, .string t] w fun e w' => e = .returned (.bool true) ∧ Below w.heap.size w w' := by
  by_cases h1 : 3000 < s.size
  · clear h
    go_enter Try.func6, Try.ntmps6
    go_wp2_with fail
    refine (awake_any _).mono ?_
    rintro e w1 ⟨rfl, hb1⟩
    go_wp2_with fail
    go_ret
    exact ⟨rfl, hb1⟩
  · have h2 : 3000 < t.size := by omega
    clear h
    go_enter Try.func6, Try.ntmps6
    go_wp2_with fail
    refine (awake_any _).mono ?_
    rintro e w1 ⟨rfl, hb1⟩
    go_wp2_with fail
    go_ret
    exact ⟨rfl, hb1⟩

set_option maxHeartbeats 400000 in
theorem back_small (c : BitVec 32) (s t : ByteArray) (w : World) (h1 : s.size ≤ 3000) (h2 : t.size ≤ 3000) :
    Calls Try.prog 6 #[.int .u32 c.toNat, .string s, .string t] w fun e w' => e = .returned (.bool true) ∧ Below w.heap.size w w' := by
  obtain ⟨d1, g1⟩ : ∃ d, add c s.data.toList = d := ⟨_, rfl⟩
  obtain ⟨d2, g2⟩ : ∃ d, back c s.data.toList = d := ⟨_, rfl⟩
  obtain ⟨d3, g3⟩ : ∃ d, add d1 t.data.toList = d := ⟨_, rfl⟩
  obtain ⟨d4, g4⟩ : ∃ d, back c t.data.toList = d := ⟨_, rfl⟩
  obtain ⟨d5, g5⟩ : ∃ d, back d4 s.data.toList = d := ⟨_, rfl⟩
  have k1 := Lib.hid (show back d1 s.data.toList = c by rw [← g1]; exact back_add _ _)
  have k2 := Lib.hid (show add d2 s.data.toList = c by rw [← g2]; exact add_back _ _)
  have k3 := Lib.hid (show add c (s ++ t).data.toList = d3 by rw [data_app, add_append, g1]; exact g3)
  have k4 := Lib.hid (show back c (s ++ t).data.toList = d5 by rw [data_app, back_append, g4]; exact g5)
  have G1 := Lib.hid g1
  have G2 := Lib.hid g2
  have G3 := Lib.hid g3
  have G4 := Lib.hid g4
  have G5 := Lib.hid g5
  have L1 := Lib.hid (show s.size ≤ 1000000000 by omega)
  have L2 := Lib.hid (show t.size ≤ 1000000000 by omega)
  have L3 := Lib.hid (show (s ++ t).size ≤ 1000000000 by simp; omega)
  clear g1 g2 g3 g4 g5
  go_enter Try.func6, Try.ntmps6
  go_wp2_with fail
  refine (awake_any _).mono ?_
  rintro e w1 ⟨rfl, hb1⟩
  go_wp2_with fail
  with_reducible refine (add_to _ _ _ _ L1.out G1.out).mono ?_
  rintro e w2 ⟨rfl, hb2⟩
  go_wp2_with fail
  with_reducible refine (back_to _ _ _ _ L1.out k1.out).mono ?_
  rintro e w3 ⟨rfl, hb3⟩
  go_wp2_with fail
  with_reducible refine (back_to _ _ _ _ L1.out G2.out).mono ?_
  rintro e w4 ⟨rfl, hb4⟩
  go_wp2_with fail
  with_reducible refine (add_to _ _ _ _ L1.out k2.out).mono ?_
  rintro e w5 ⟨rfl, hb5⟩
  go_wp2_with fail
  with_reducible refine (add_to _ _ _ _ L1.out G1.out).mono ?_
  rintro e w6 ⟨rfl, hb6⟩
  go_wp2_with fail
  with_reducible refine (add_to _ _ _ _ L2.out G3.out).mono ?_
  rintro e w7 ⟨rfl, hb7⟩
  go_wp2_with fail
  with_reducible refine (add_to _ _ _ _ L3.out k3.out).mono ?_
  rintro e w8 ⟨rfl, hb8⟩
  go_wp2_with fail
  with_reducible refine (back_to _ _ _ _ L2.out G4.out).mono ?_
  rintro e w9 ⟨rfl, hb9⟩
  go_wp2_with fail
  with_reducible refine (back_to _ _ _ _ L1.out G5.out).mono ?_
  rintro e w10 ⟨rfl, hb10⟩
  go_wp2_with fail
  with_reducible refine (back_to _ _ _ _ L3.out k4.out).mono ?_
  rintro e w11 ⟨rfl, hb11⟩
  go_wp2_with fail
  with_reducible refine (add_to c c ⟨#[]⟩ _ (by decide) (add_nil c)).mono ?_
  rintro e w12 ⟨rfl, hb12⟩
  go_wp2_with fail
  with_reducible refine (back_to c c ⟨#[]⟩ _ (by decide) (back_nil c)).mono ?_
  rintro e w13 ⟨rfl, hb13⟩
  go_wp2_with fail
  go_ret
  refine ⟨rfl, ?_⟩
  exact bel_trans (bel_trans (bel_trans (bel_trans (bel_trans (bel_trans (bel_trans (bel_trans (bel_trans (bel_trans (bel_trans (bel_trans hb1 hb2) hb3) hb4) hb5) hb6) hb7) hb8) hb9) hb10) hb11) hb12) hb13

theorem back_law (a : Int) (s t : ByteArray) (w : World) (ha : (Lit.int .u32 a).wf = true) :
    Calls Try.prog 6 #[.int .u32 a, .string s, .string t] w fun e w' => e = .returned (.bool true) ∧ Below w.heap.size w w' := by
  obtain ⟨c, rfl⟩ := wf_u32 ha
  by_cases h : s.size ≤ 3000 ∧ t.size ≤ 3000
  · exact back_small c s t w h.1 h.2
  · exact back_big c s t w (by omega)

end Go.Proofs.Ytdcfefhlhphdiaa
