/- Walks over package crc: Add, Of, bytes, Seal. -/
import Derived.Test.YtdcfefhlhphdiaaCrcR
import Derived.Laws.IdiomStrings
namespace Go.Proofs.Ytdcfefhlhphdiaa
open Go.RowKit

@[go_sem] theorem g_not (c : BitVec 32) : bits .xor .u32 IntKind.u32.max (c.toNat : Int) = ((nt c).toNat : Int) := by
  have h := u32_xor_nat 4294967295 c.toNat (by omega) (b32lt c)
  show bits .xor .u32 4294967295 (c.toNat : Int) = _
  rw [show (4294967295 : Int) = ((4294967295 : Nat) : Int) from rfl, h]
  have e : nt c = BitVec.allOnes 32 ^^^ c := by
    unfold nt
    apply BitVec.eq_of_getLsbD_eq
    intro i hi
    rw [BitVec.getLsbD_xor, BitVec.getLsbD_allOnes, BitVec.getLsbD_not]; simp [hi]
  rw [e, BitVec.toNat_xor]; rfl

set_option maxHeartbeats 400000 in
theorem add_str (c : BitVec 32) (s : ByteArray) (w : World) (hs : s.size ≤ 1000000000) :
    Calls Try.prog 18 #[.int .u32 c.toNat, .string s] w
      fun e w' => e = .returned (.int .u32 (add c s.data.toList).toNat) ∧ Below w.heap.size w w' := by
  have hs' : s.size ≤ maxLen := by unfold maxLen; omega
  go_enter Try.func18, Try.ntmps18
  go_wp2_with fail
  refine (table_any _).mono ?_
  rintro e w1 ⟨rfl, hb1⟩
  go_wp2_with fail
  with_reducible refine (run_str _ _ _ hs').mono ?_
  rintro e w2 ⟨rfl, hb2⟩
  go_wp2_with fail
  go_ret
  exact ⟨rfl, hb1.trans (hb2.mono hb1.size)⟩

set_option maxHeartbeats 400000 in
theorem of_str (s : ByteArray) (w : World) (hs : s.size ≤ 1000000000) :
    Calls Try.prog 13 #[.string s] w
      fun e w' => e = .returned (.int .u32 (crc s.data.toList).toNat) ∧ Below w.heap.size w w' := by
  go_enter Try.func13, Try.ntmps13
  go_wp2_with fail
  refine (add_str 0#32 _ _ hs).mono ?_
  rintro e w1 ⟨rfl, hb1⟩
  go_wp2_with fail
  go_ret
  exact ⟨rfl, hb1⟩

/-- a number's i-th byte -/
def byt (c : BitVec 32) (i : Nat) : UInt8 := UInt8.ofNat (c.toNat / 256 ^ i)
def four (c : BitVec 32) : List UInt8 := [byt c 0, byt c 1, byt c 2, byt c 3]
@[go_sem] theorem length_four (c : BitVec 32) : (four c).length = 4 := rfl
/-- bytes as cells -/
def bts (l : List UInt8) : Array Value := (l.map fun b => Value.int .u8 (b.toNat : Int)).toArray
theorem byt_val (c : BitVec 32) (i : Nat) : ((byt c i).toNat : Int) = (c.toNat / 256 ^ i % 256 : Nat) := by
  unfold byt; rw [UInt8.toNat_ofNat']
theorem bts_four (c : BitVec 32) : bts (four c) = #[.int .u8 ((c.toNat : Int) % 256), .int .u8 ((c.toNat : Int) / 256 % 256), .int .u8 ((c.toNat : Int) / 65536 % 256), .int .u8 ((c.toNat : Int) / 16777216)] := by
  have h := b32lt c
  unfold bts four
  simp only [List.map, byt_val]
  rw [show (c.toNat / 256 ^ 0 % 256 : Nat) = c.toNat % 256 from by rw [Nat.pow_zero, Nat.div_one], show (256 ^ 1 : Nat) = 256 from rfl, show (256 ^ 2 : Nat) = 65536 from rfl, show (256 ^ 3 : Nat) = 16777216 from rfl,
    Nat.mod_eq_of_lt (a := c.toNat / 16777216) (by omega)]
  rfl

set_option maxHeartbeats 400000 in
theorem bytes_any (c : BitVec 32) (w : World) :
    Calls Try.prog 30 #[.int .u32 c.toNat] w
      fun e w' => e = .returned (.slice (some ⟨w.heap.size, 0, none⟩) 4 4) ∧ w.alloc (.cells (bts (four c)) 5) = w' := by
  rw [bts_four]
  go_enter Try.func30, Try.ntmps30
  go_wp2_with fail
  go_ret
  exact ⟨rfl, rfl⟩

theorem get_bts (l : List UInt8) (j : Nat) (h : j < l.length) : (bts l)[j]? = some (.int .u8 (l[j].toNat : Int)) := by
  simp [bts, h]
theorem conv_bts (l : List UInt8) (n cap : Nat) (hn : l.length = n) (w : World) :
    (convert 23 9 (.slice (some ⟨w.heap.size, 0, none⟩) n cap)).run Try.prog (w.alloc (.cells (bts l) 5)) = .ok (.string ⟨l.toArray⟩) (w.alloc (.cells (bts l) 5)) := by
  subst hn
  refine run_convert_bytes_back _ _ _ 5 _ _ l Try.underlying23 Try.underlying5 Try.underlying9 ?_
  intro j hj
  have : (⟨w.heap.size, 0, none⟩ : Addr).add j = ⟨w.heap.size, j, none⟩ := by unfold Addr.add; split <;> simp_all
  rw [this, World.cell?_alloc_new, get_bts l j hj]

/-- bytes as a string -/
def bs (l : List UInt8) : ByteArray := ⟨l.toArray⟩
def sealL (l : List UInt8) : List UInt8 := l ++ four (crc l)

set_option maxHeartbeats 400000 in
theorem seal_str (s : ByteArray) (w : World) (hs : s.size ≤ 1000000000) :
    Calls Try.prog 15 #[.string s] w
      fun e w' => e = .returned (.string (bs (sealL s.data.toList))) ∧ Below w.heap.size w w' := by
  have hc := conv_bts (four (crc s.data.toList)) 4 4 rfl
  have H := Lib.hid hc
  clear hc
  go_enter Try.func15, Try.ntmps15
  go_wp2_with fail
  refine (of_str _ _ hs).mono ?_
  rintro e w1 ⟨rfl, hb1⟩
  go_wp2_with fail
  refine (bytes_any _ _).mono ?_
  rintro e w2 ⟨rfl, rfl⟩
  have hc := H.out w1
  go_wp2_with fail
  go_ret
  exact ⟨rfl, hb1.alloc hb1.size _⟩

end Go.Proofs.Ytdcfefhlhphdiaa
