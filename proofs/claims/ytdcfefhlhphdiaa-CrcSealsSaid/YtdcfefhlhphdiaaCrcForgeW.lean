/- The walk over souklaw01.CrcForge. -/
import Derived.Test.YtdcfefhlhphdiaaForge
import Derived.Test.YtdcfefhlhphdiaaCrcBurstW
import Derived.BigRegion
namespace Go.Proofs.Ytdcfefhlhphdiaa
open Go.RowKit

theorem run_zeros (c : BitVec 32) : run c [0, 0, 0, 0] = up 32 c := by
  have h := run_four c 0#32
  rw [BitVec.xor_zero] at h
  rw [← h]; rfl
theorem forge_crc (l : List UInt8) (a : Nat) (want : BitVec 32) : crc (forgeL l a want) = want := by
  unfold crc add forgeL
  rw [run_append, run_append, run_four]
  have e : run (nt 0#32) (l.take a) ^^^ forgeW l a want = bk (bk (nt want) (l.drop (a + 4))) [0, 0, 0, 0] := by
    unfold forgeW xr
    rw [← BitVec.xor_assoc, BitVec.xor_self, BitVec.zero_xor]
  rw [e, ← run_zeros, run_bk, run_bk, nt_nt]
theorem run_inj (l : List UInt8) (c d : BitVec 32) (h : run c l = run d l) : c = d := by rw [← bk_run l c, h, bk_run]
theorem nt_inj (c d : BitVec 32) (h : nt c = nt d) : c = d := by rw [← nt_nt c, h, nt_nt]
theorem forge_only (l : List UInt8) (a : Nat) (want o : BitVec 32) : crc (l.take a ++ four o ++ l.drop (a + 4)) = want ↔ l.take a ++ four o ++ l.drop (a + 4) = forgeL l a want := by
  constructor
  · intro h
    have h2 := h.trans (forge_crc l a want).symm
    unfold crc add forgeL at h2
    have h3 := nt_inj _ _ h2
    rw [run_append, run_append, run_append _ (_ ++ _), run_append _ (l.take a), run_four, run_four] at h3
    have h4 := up_inj _ (run_inj _ _ _ h3)
    have h5 := congrArg (fun z => run (nt 0#32) (l.take a) ^^^ z) h4
    simp only [← BitVec.xor_assoc, BitVec.xor_self, BitVec.zero_xor] at h5
    unfold forgeL
    rw [h5]
  · intro h
    rw [h]; exact forge_crc l a want
theorem length_forge (l : List UInt8) (a : Nat) (want : BitVec 32) (h : a + 4 ≤ l.length) : (forgeL l a want).length = l.length := by
  unfold forgeL
  rw [List.length_append, List.length_append, length_four, List.length_take, List.length_drop]
  omega
theorem forge_to (s t : ByteArray) (a : Nat) (want : BitVec 32) (w : World) (hs : s.size ≤ 1000000000) (h : a + 4 ≤ s.size) (ht : bs (forgeL s.data.toList a want) = t) :
    Calls Try.prog 19 #[.string s, .int .i64 a, .int .u32 want.toNat] w
      fun e w' => e = .returned (.tuple #[.string t, .int .i64 0]) ∧ Below w.heap.size w w' := by
  subst ht; exact forge_ok s a want w hs h
theorem bts_four_w (c : BitVec 32) : bts (four c) = #[.int .u8 ((c.toNat : Int) % 256), .int .u8 ((c.toNat : Int) / 256 % 256), .int .u8 ((c.toNat : Int) / 65536 % 256), .int .u8 (((top c : Nat) : Int) % 256)] := by
  have h := top_lt c
  rw [bts_four, g_top]
  rw [Int.emod_eq_of_lt (a := ((top c : Nat) : Int)) (by omega) (by omega)]
attribute [local go_sem] toList_bs

set_option maxHeartbeats 400000 in
theorem forgel_big (s : ByteArray) (a : Int) (want o : BitVec 32) (w : World) (h : 3000 < s.size) :
    Calls Try.prog 7 #[.string s, .int .i64 a, .int .u32 want.toNat, .int .u32 o.toNat] w fun e w' => e = .returned (.bool true) ∧ Below w.heap.size w w' := by
  go_enter Try.func7, Try.ntmps7
  go_wp2_with fail
  with_reducible refine (awake_any _).mono ?_
  rintro e w1 ⟨rfl, hb1⟩
  go_wp2_with fail
  go_ret
  exact ⟨rfl, hb1⟩

set_option maxHeartbeats 400000 in
theorem forgel_neg (s : ByteArray) (a : Int) (want o : BitVec 32) (w : World) (h : s.size ≤ 3000) (h0 : a < 0) :
    Calls Try.prog 7 #[.string s, .int .i64 a, .int .u32 want.toNat, .int .u32 o.toNat] w fun e w' => e = .returned (.bool true) ∧ Below w.heap.size w w' := by
  have hd : decide (a < 0) = true := by simp; omega
  go_enter Try.func7, Try.ntmps7
  go_wp2_with fail
  with_reducible refine (awake_any _).mono ?_
  rintro e w1 ⟨rfl, hb1⟩
  go_wp2_with fail
  with_reducible refine (forge_neg _ _ _ _ h0).mono ?_
  rintro e w2 ⟨rfl, hb2⟩
  go_wp2_with fail
  go_ret
  exact ⟨rfl, bel_trans (hb1) hb2⟩

set_option maxHeartbeats 400000 in
theorem forgel_far (s : ByteArray) (a : Int) (want o : BitVec 32) (w : World) (h : s.size ≤ 3000) (h0 : 0 ≤ a) (h1 : (s.size : Int) - 4 < a) :
    Calls Try.prog 7 #[.string s, .int .i64 a, .int .u32 want.toNat, .int .u32 o.toNat] w fun e w' => e = .returned (.bool true) ∧ Below w.heap.size w w' := by
  have hs : s.size ≤ 1000000000 := by omega
  go_enter Try.func7, Try.ntmps7
  go_wp2_with fail
  with_reducible refine (awake_any _).mono ?_
  rintro e w1 ⟨rfl, hb1⟩
  go_wp2_with fail
  with_reducible refine (forge_far _ _ _ _ hs h0 h1).mono ?_
  rintro e w2 ⟨rfl, hb2⟩
  go_wp2_with fail
  go_ret
  exact ⟨rfl, bel_trans (hb1) hb2⟩

set_option maxHeartbeats 4000000 in
theorem forgel_ok (s : ByteArray) (a : Nat) (want o : BitVec 32) (w : World) (h : s.size ≤ 3000) (h1 : a + 4 ≤ s.size) :
    Calls Try.prog 7 #[.string s, .int .i64 a, .int .u32 want.toNat, .int .u32 o.toNat] w fun e w' => e = .returned (.bool true) ∧ Below w.heap.size w w' := by
  have hl : a + 4 ≤ s.data.toList.length := by simpa using h1
  obtain ⟨t, ht⟩ : ∃ t, bs (forgeL s.data.toList a want) = t := ⟨_, rfl⟩
  have htd : t.data.toList = forgeL s.data.toList a want := by rw [← ht, bs_data]
  have hts : t.size = s.size := by rw [← ht, size_bs, length_forge _ _ _ hl]; simp
  have hx1 : t.extract 0 a = s.extract 0 a := by
    apply ba_ext
    have : (t.extract 0 a).data.toList = t.data.toList.take a := by simp
    rw [this, htd]
    unfold forgeL
    rw [List.append_assoc, List.take_append_of_le_length (by simp; omega)]
    simp
    exact List.take_take ▸ by rw [Nat.min_self]
  have hx2 : t.extract (a + 4) s.size = s.extract (a + 4) s.size := by
    apply ba_ext
    have e1 : (t.extract (a + 4) s.size).data.toList = t.data.toList.drop (a + 4) := by
      rw [← hts]; simp
      exact List.take_of_length_le (by simp)
    have e2 : (s.extract (a + 4) s.size).data.toList = s.data.toList.drop (a + 4) := by
      simp
      exact List.take_of_length_le (by simp)
    rw [e1, e2, htd]
    unfold forgeL
    rw [List.drop_append_of_le_length (by simp [length_four]; omega), List.drop_of_length_le (by simp [length_four]; omega)]; rfl
  have HT := Lib.hid ht
  have HC := Lib.hid (show crc t.data.toList = want by rw [htd]; exact forge_crc _ _ _)
  have LT := Lib.hid (show t.size ≤ 1000000000 by rw [hts]; omega)
  have L1 := Lib.hid (show s.size ≤ 1000000000 by omega)
  have L2 := Lib.hid h1
  have HTD := Lib.hid htd
  have f1 : (0 : Int) ≤ (a : Int) + 4 := by omega
  have f2 : (a : Int) + 4 ≤ (s.size : Int) := by omega
  have f3 : ((a : Int) + 4).toNat = a + 4 := by omega
  have f4 : IntKind.i64.wrap ((a : Int) + 4) = (a : Int) + 4 := IntWalk.i64_in _ (by omega)
  have f5 : (0 : Int) ≤ (a : Int) := by omega
  have f6 : (a : Int) ≤ (s.size : Int) := by omega
  clear ht htd hl
  go_enter Try.func7, Try.ntmps7
  go_wp2_with fail
  with_reducible refine (awake_any _).mono ?_
  rintro e w1 ⟨rfl, hb1⟩
  go_wp2_with fail
  with_reducible refine (forge_to _ _ _ _ _ L1.out L2.out HT.out).mono ?_
  rintro e w2 ⟨rfl, hb2⟩
  go_wp2_with fail
  go_region_held3 (fun _ => True) (trivial)
    (first | (go_at_call 13; (with_reducible refine (of_to _ _ _ LT.out HC.out).mono ?_); rintro e w3 ⟨rfl, hb3⟩))
  go_wp2_with fail
  have hv := conv_bts_drew (four o) 4 4 rfl
  simp only [bts_four_w] at hv
  go_region
  go_wp2_with fail
  generalize hu : (s.extract 0 a ++ ⟨(four o).toArray⟩ ++ s.extract (a + 4) s.size : ByteArray) = u
  have hud : u.data.toList = s.data.toList.take a ++ four o ++ s.data.toList.drop (a + 4) := by
    have e1 : (s.extract 0 a).data.toList = s.data.toList.take a := by simp
    have e2 : (s.extract (a + 4) s.size).data.toList = s.data.toList.drop (a + 4) := by
      simp
      exact List.take_of_length_le (by simp)
    rw [← hu, data_app, data_app, e1, e2]
  have hus : u.size ≤ 1000000000 := by
    rw [← hu]
    simp only [ByteArray.size_append']
    have : (ByteArray.mk (four o).toArray).size = 4 := rfl
    rw [this]
    simp
    omega
  obtain ⟨d, hd⟩ : ∃ d, crc u.data.toList = d := ⟨_, rfl⟩
  have hfin : (((d.toNat : Int) == (want.toNat : Int)) == (u.toList == t.toList)) = true := by
    have h3 := forge_only s.data.toList a want o
    rw [← hud, hd, ← HTD.out] at h3
    have h4 : (u.toList == t.toList) = !(!(u.toList == t.toList)) := by simp
    have h5 : want = d ↔ (!(u.toList == t.toList)) = false := by
      rw [ByteArray.toList_eq, ByteArray.toList_eq]
      simp only [Bool.not_eq_false', beq_iff_eq]
      exact ⟨fun e => h3.1 e.symm, fun e => (h3.2 e).symm⟩
    rw [eq_int h5]
    simp
  have HU := Lib.hid hus
  have HD := Lib.hid hd
  clear hu hud hus hd hv hx1 hx2 hts
  with_reducible refine (of_to _ _ _ HU.out HD.out).mono ?_
  rintro e w4 ⟨rfl, hb4⟩
  go_wp2_with fail
  go_ret
  exact ⟨rfl, bel_trans (bel_drew (bel_alloc (bel_trans (bel_trans hb1 hb2) (bel_undrew hb3)) _)) hb4⟩

theorem forgel_law (s : ByteArray) (a b c : Int) (w : World) (hb : (Lit.int .u32 b).wf = true) (hc : (Lit.int .u32 c).wf = true) :
    Calls Try.prog 7 #[.string s, .int .i64 a, .int .u32 b, .int .u32 c] w fun e w' => e = .returned (.bool true) ∧ Below w.heap.size w w' := by
  obtain ⟨b, rfl⟩ := wf_u32 hb
  obtain ⟨c, rfl⟩ := wf_u32 hc
  by_cases h : s.size ≤ 3000
  · by_cases h0 : a < 0
    · exact forgel_neg s a b c w h h0
    · by_cases h1 : (s.size : Int) - 4 < a
      · exact forgel_far s a b c w h (by omega) h1
      · obtain ⟨n, rfl⟩ := Int.eq_ofNat_of_zero_le (show 0 ≤ a by omega)
        exact forgel_ok s n b c w h (by omega)
  · exact forgel_big s a b c w (by omega)

end Go.Proofs.Ytdcfefhlhphdiaa
