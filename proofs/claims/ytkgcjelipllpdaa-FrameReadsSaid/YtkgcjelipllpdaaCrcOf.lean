/- Walks over package crc: Add, Of. -/
import Derived.Test.YtkgcjelipllpdaaCrcR
import Derived.Laws.IdiomStrings
namespace Go.Proofs.Ytkgcjelipllpdaa
open Go.RowKit

@[go_sem] theorem g_not (c : BitVec 32) : bits .xor .u32 IntKind.u32.max (c.toNat : Int) = ((nt c).toNat : Int) := by
  have h := u32_xor_nat 4294967295 c.toNat (by omega) (b32lt c)
  show bits .xor .u32 4294967295 (c.toNat : Int) = _
  rw [show (4294967295 : Int) = ((4294967295 : Nat) : Int) from rfl, h]
  have e : nt c = BitVec.allOnes 32 ^^^ c := by
    unfold nt
    apply BitVec.eq_of_getLsbD_eq
    intro i hi
    rw [BitVec.getLsbD_xor, BitVec.getLsbD_allOnes, BitVec.getLsbD_not]; simp [hi]
  rw [e, BitVec.toNat_xor]; rfl

set_option maxHeartbeats 400000 in
theorem add_str (c : BitVec 32) (s : ByteArray) (w : World) (hs : s.size ≤ 1000000000) :
    Calls Try.prog 44 #[.int .u32 c.toNat, .string s] w
      fun e w' => e = .returned (.int .u32 (add c s.data.toList).toNat) ∧ Below w.heap.size w w' := by
  have hs' : s.size ≤ maxLen := by unfold maxLen; omega
  go_enter Try.func44, Try.ntmps44
  go_wp2_with fail
  refine (table_any _).mono ?_
  rintro e w1 ⟨rfl, hb1⟩
  go_wp2_with fail
  with_reducible refine (run_str _ _ _ hs').mono ?_
  rintro e w2 ⟨rfl, hb2⟩
  go_wp2_with fail
  go_ret
  exact ⟨rfl, hb1.trans (hb2.mono hb1.size)⟩

set_option maxHeartbeats 400000 in
theorem of_str (s : ByteArray) (w : World) (hs : s.size ≤ 1000000000) :
    Calls Try.prog 28 #[.string s] w
      fun e w' => e = .returned (.int .u32 (crc s.data.toList).toNat) ∧ Below w.heap.size w w' := by
  go_enter Try.func28, Try.ntmps28
  go_wp2_with fail
  refine (add_str 0#32 _ _ hs).mono ?_
  rintro e w1 ⟨rfl, hb1⟩
  go_wp2_with fail
  go_ret
  exact ⟨rfl, hb1⟩

end Go.Proofs.Ytkgcjelipllpdaa
