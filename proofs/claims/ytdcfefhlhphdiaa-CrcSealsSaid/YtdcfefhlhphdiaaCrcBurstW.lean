/- The walk over souklaw01.CrcBurst. -/
import Derived.Test.YtdcfefhlhphdiaaBurst
import Derived.Test.YtdcfefhlhphdiaaCrcSealed2W
namespace Go.Proofs.Ytdcfefhlhphdiaa
open Go.RowKit

theorem burst_all (s : ByteArray) (a : Int) (p : BitVec 32) (w : World) (hs : s.size ≤ 1000000000) :
    ∃ t b, t.size = s.size ∧ (crc t.data.toList = crc s.data.toList ↔ b = false) ∧ Calls Try.prog 14 #[.string s, .int .i64 a, .int .u32 p.toNat] w
      fun e w' => e = .returned (.tuple #[.string t, .bool b]) ∧ Below w.heap.size w w' := by
  by_cases h0 : s.size = 0
  · exact ⟨s, false, rfl, by simp, burst_none s a p w h0⟩
  · obtain ⟨f, i, hi, hf, hc⟩ := burst_some s a p w hs (by omega)
    refine ⟨_, _, ?_, ?_, hc⟩
    · rw [size_bs, length_burst]; simp
    · rw [bs_data]; exact crc_burst _ p f i hi (by simpa using hf)

theorem four_surj (l : List UInt8) (h : l.length = 4) : ∃ d, four d = l := by
  match l, h with
  | [a, b, c, d], _ =>
    have ha := b8lt a
    have hb := b8lt b
    have hc := b8lt c
    have hd := b8lt d
    refine ⟨BitVec.ofNat 32 (a.toNat + 256 * b.toNat + 65536 * c.toNat + 16777216 * d.toNat), ?_⟩
    have hx : (BitVec.ofNat 32 (a.toNat + 256 * b.toNat + 65536 * c.toNat + 16777216 * d.toNat)).toNat = a.toNat + 256 * b.toNat + 65536 * c.toNat + 16777216 * d.toNat := by
      rw [BitVec.toNat_ofNat]; omega
    have e : ∀ (x : UInt8) (n : Nat), n % 256 = x.toNat → UInt8.ofNat n = x := by
      intro x n hn
      apply UInt8.toNat_inj.1
      rw [UInt8.toNat_ofNat']; exact hn
    unfold four byt
    rw [hx]
    have e0 := e a ((a.toNat + 256 * b.toNat + 65536 * c.toNat + 16777216 * d.toNat) / 256 ^ 0) (by omega)
    have e1 := e b ((a.toNat + 256 * b.toNat + 65536 * c.toNat + 16777216 * d.toNat) / 256 ^ 1) (by omega)
    have e2 := e c ((a.toNat + 256 * b.toNat + 65536 * c.toNat + 16777216 * d.toNat) / 256 ^ 2) (by omega)
    have e3 := e d ((a.toNat + 256 * b.toNat + 65536 * c.toNat + 16777216 * d.toNat) / 256 ^ 3) (by omega)
    rw [e0, e1, e2, e3]
theorem crc_four_inj (h : List UInt8) (c d : BitVec 32) (e : crc (h ++ four c) = crc (h ++ four d)) : c = d := by
  unfold crc at e
  rw [add_append, add_append] at e
  generalize add 0#32 h = x at e
  unfold add at e
  have e' : run (nt x) (four c) = run (nt x) (four d) := by
    rw [← nt_nt (run (nt x) (four c)), e, nt_nt]
  rw [run_four, run_four] at e'
  have e2 := up_inj _ e'
  have := congrArg (fun z => nt x ^^^ z) e2
  simp only [← BitVec.xor_assoc, BitVec.xor_self, BitVec.zero_xor] at this
  exact this
theorem isSealed_iff (l : List UInt8) (h : 4 ≤ l.length) : isSealed l = true ↔ crc l = 0x2144DF1C#32 := by
  constructor
  · intro hs
    have : sealL (l.take (l.length - 4)) = l := by unfold isSealed at hs; simpa using hs
    rw [← this]; exact crc_seal _
  · intro hc
    obtain ⟨d, hd⟩ := four_surj (l.drop (l.length - 4)) (by simp; omega)
    have hl : l.take (l.length - 4) ++ four d = l := by rw [hd, List.take_append_drop]
    have hs := crc_seal (l.take (l.length - 4))
    unfold sealL at hs
    have e := crc_four_inj _ _ _ (hs.trans (hc.symm.trans (by rw [hl])))
    unfold isSealed sealL
    rw [e, hl]; simp

theorem eq_int {c d : BitVec 32} {b : Bool} (h : c = d ↔ b = false) : ((d.toNat : Int) == (c.toNat : Int)) = !b := by
  have e : (d.toNat : Int) = (c.toNat : Int) ↔ c = d := by
    constructor
    · intro x; exact (BitVec.eq_of_toNat_eq (by omega)).symm
    · intro x; rw [x]
  cases b
  · have := e.2 (h.2 rfl)
    rw [this]; simp
  · have hn : ¬ c = d := fun x => by have := h.1 x; cases this
    have hn' : ¬ (d.toNat : Int) = (c.toNat : Int) := fun x => hn (e.1 x)
    simp only [Bool.not_true]
    exact beq_eq_false_iff_ne.2 hn'

set_option maxHeartbeats 400000 in
theorem burst_big (s : ByteArray) (a : Int) (p : BitVec 32) (w : World) (h : 3000 < s.size) :
    Calls Try.prog 4 #[.string s, .int .i64 a, .int .u32 p.toNat] w fun e w' => e = .returned (.bool true) ∧ Below w.heap.size w w' := by
  go_enter Try.func4, Try.ntmps4
  go_wp2_with fail
  refine (awake_any _).mono ?_
  rintro e w1 ⟨rfl, hb1⟩
  go_wp2_with fail
  go_ret
  exact ⟨rfl, hb1⟩

set_option maxHeartbeats 1000000 in
theorem burst_small (s : ByteArray) (a : Int) (p : BitVec 32) (w : World) (h : s.size ≤ 3000) :
    Calls Try.prog 4 #[.string s, .int .i64 a, .int .u32 p.toNat] w fun e w' => e = .returned (.bool true) ∧ Below w.heap.size w w' := by
  obtain ⟨x, hx⟩ : ∃ x, bs (sealL s.data.toList) = x := ⟨_, rfl⟩
  have hxd : x.data.toList = sealL s.data.toList := by rw [← hx, bs_data]
  have hxs : x.size = s.size + 4 := by rw [← hx, size_bs, length_seal]; simp
  have L1 := Lib.hid (show s.size ≤ 1000000000 by omega)
  have L3 := Lib.hid (show x.size ≤ 1000000000 by omega)
  have HX := Lib.hid hx
  have HXC := Lib.hid (show crc x.data.toList = 0x2144DF1C#32 by rw [hxd]; exact crc_seal _)
  have HXS := Lib.hid hxs
  clear hx hxd hxs
  go_enter Try.func4, Try.ntmps4
  go_wp2_with fail
  refine (awake_any _).mono ?_
  rintro e w1 ⟨rfl, hb1⟩
  go_wp2_with fail
  obtain ⟨t, b, ht, hcb, hca⟩ := burst_all s a p w1 L1.out
  have LT := Lib.hid (show t.size ≤ 1000000000 by rw [ht]; exact L1.out)
  obtain ⟨c1, g1⟩ : ∃ c, crc s.data.toList = c := ⟨_, rfl⟩
  obtain ⟨c2, g2⟩ : ∃ c, crc t.data.toList = c := ⟨_, rfl⟩
  rw [g1, g2] at hcb
  have heq : (((c1.toNat : Int) == (c2.toNat : Int)) == b) = false := by rw [eq_int hcb]; cases b <;> rfl
  have G1 := Lib.hid g1
  have G2 := Lib.hid g2
  clear g1 g2 hcb ht
  refine hca.mono ?_
  clear hca
  rintro e w2 ⟨rfl, hb2⟩
  go_wp2_with fail
  with_reducible refine (of_to _ _ _ L1.out G1.out).mono ?_
  rintro e w3 ⟨rfl, hb3⟩
  go_wp2_with fail
  with_reducible refine (of_to _ _ _ LT.out G2.out).mono ?_
  rintro e w4 ⟨rfl, hb4⟩
  go_wp2_with fail
  with_reducible refine (seal_to _ _ _ L1.out HX.out).mono ?_
  rintro e w5 ⟨rfl, hb5⟩
  go_wp2_with fail
  obtain ⟨u, b2, hu, hcb, hca⟩ := burst_all x a p w5 L3.out
  have LU := Lib.hid (show u.size ≤ 1000000000 by rw [hu]; exact L3.out)
  have LU4 := Lib.hid (show 4 ≤ u.size by rw [hu, HXS.out]; omega)
  rw [HXC.out, ← isSealed_iff _ (show 4 ≤ u.data.toList.length from LU4.out)] at hcb
  have HCB := Lib.hid hcb
  clear hcb hu
  refine hca.mono ?_
  clear hca
  rintro e w6 ⟨rfl, hb6⟩
  go_wp2_with fail
  have bel := bel_trans (bel_trans (bel_trans (bel_trans (bel_trans hb1 hb2) hb3) hb4) hb5) hb6
  cases b2
  · refine (open_yes u _ LU.out LU4.out (HCB.out.2 rfl)).mono ?_
    rintro e w7 ⟨rfl, hb7⟩
    go_wp2_with fail
    go_ret
    exact ⟨rfl, bel_trans bel hb7⟩
  · refine (open_no u _ LU.out LU4.out (by cases hy : isSealed u.data.toList; rfl; exact absurd (HCB.out.1 hy) (by decide))).mono ?_
    rintro e w7 ⟨rfl, hb7⟩
    go_wp2_with fail
    go_ret
    exact ⟨rfl, bel_trans bel hb7⟩

theorem burst_law (s : ByteArray) (a b : Int) (w : World) (hb : (Lit.int .u32 b).wf = true) :
    Calls Try.prog 4 #[.string s, .int .i64 a, .int .u32 b] w fun e w' => e = .returned (.bool true) ∧ Below w.heap.size w w' := by
  obtain ⟨c, rfl⟩ := wf_u32 hb
  by_cases h : s.size ≤ 3000
  · exact burst_small s a c w h
  · exact burst_big s a c w (by omega)

end Go.Proofs.Ytdcfefhlhphdiaa
