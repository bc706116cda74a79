/- A number's four bytes; bytes as cells, and read back as a string. -/
import Derived.Test.YtkgcjelipllpdaaCrcOf
namespace Go.Proofs.Ytkgcjelipllpdaa
open Go.RowKit

/-- a number's i-th byte -/
def byt (c : BitVec 32) (i : Nat) : UInt8 := UInt8.ofNat (c.toNat / 256 ^ i)
def four (c : BitVec 32) : List UInt8 := [byt c 0, byt c 1, byt c 2, byt c 3]
@[go_sem] theorem length_four (c : BitVec 32) : (four c).length = 4 := rfl
/-- bytes as cells -/
def bts (l : List UInt8) : Array Value := (l.map fun b => Value.int .u8 (b.toNat : Int)).toArray
theorem byt_val (c : BitVec 32) (i : Nat) : ((byt c i).toNat : Int) = (c.toNat / 256 ^ i % 256 : Nat) := by
  unfold byt; rw [UInt8.toNat_ofNat']
theorem bts_four (c : BitVec 32) : bts (four c) = #[.int .u8 ((c.toNat : Int) % 256), .int .u8 ((c.toNat : Int) / 256 % 256), .int .u8 ((c.toNat : Int) / 65536 % 256), .int .u8 ((c.toNat : Int) / 16777216)] := by
  have h := b32lt c
  unfold bts four
  simp only [List.map, byt_val]
  rw [show (c.toNat / 256 ^ 0 % 256 : Nat) = c.toNat % 256 from by rw [Nat.pow_zero, Nat.div_one], show (256 ^ 1 : Nat) = 256 from rfl, show (256 ^ 2 : Nat) = 65536 from rfl, show (256 ^ 3 : Nat) = 16777216 from rfl,
    Nat.mod_eq_of_lt (a := c.toNat / 16777216) (by omega)]
  rfl

theorem get_bts (l : List UInt8) (j : Nat) (h : j < l.length) : (bts l)[j]? = some (.int .u8 (l[j].toNat : Int)) := by
  simp [bts, h]
theorem conv_bts (l : List UInt8) (n cap : Nat) (hn : l.length = n) (w : World) :
    (convert 46 9 (.slice (some ⟨w.heap.size, 0, none⟩) n cap)).run Try.prog (w.alloc (.cells (bts l) 5)) = .ok (.string ⟨l.toArray⟩) (w.alloc (.cells (bts l) 5)) := by
  subst hn
  refine run_convert_bytes_back _ _ _ 5 _ _ l Try.underlying46 Try.underlying5 Try.underlying9 ?_
  intro j hj
  have : (⟨w.heap.size, 0, none⟩ : Addr).add j = ⟨w.heap.size, j, none⟩ := by unfold Addr.add; split <;> simp_all
  rw [this, World.cell?_alloc_new, get_bts l j hj]

/-- bytes as a string -/
def bs (l : List UInt8) : ByteArray := ⟨l.toArray⟩
def sealL (l : List UInt8) : List UInt8 := l ++ four (crc l)

end Go.Proofs.Ytkgcjelipllpdaa
