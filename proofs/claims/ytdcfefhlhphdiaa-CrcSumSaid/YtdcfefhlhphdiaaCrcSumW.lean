/- The walk over souklaw01.CrcSum. -/
import Derived.Test.YtdcfefhlhphdiaaCrcAwake
import Derived.Test.YtdcfefhlhphdiaaCrcSumL
import Derived.Deep.OwnRows
import Derived.Deep.RegionHeld3
namespace Go.Proofs.Ytdcfefhlhphdiaa
open Go.RowKit

def min3 (x y z : Int) : Int := if z < (if y < x then y else x) then z else (if y < x then y else x)
@[go_sem high] theorem run_min3 {P : Program} (w : World) (ts : Array TypeId) (t : TypeId) (x y z : Int) :
    (Builtin.min_ ts t #[.int .i64 x, .int .i64 y, .int .i64 z]).run P w = .ok (.int .i64 (min3 x y z)) w := run_min_int3 w ts t .i64 .i64 .i64 x y z

theorem min3_nat (a b c : Nat) : ∃ n : Nat, min3 a b c = n ∧ n ≤ a ∧ n ≤ b ∧ n ≤ c := by
  unfold min3
  refine ⟨min (min a b) c, ?_, by omega, by omega, by omega⟩
  split <;> split <;> omega

theorem info_u8 : (Try.prog.info? 5).map (fun i => (i.zero, i.size, i.bytes)) = some (some (.int .u8 0), 1, 1) := by kernel_rfl
theorem make_u8s (n : Nat) (h : n ≤ 281474976710656) (w : World) :
    (Instr.makeSlice 23 (.int .i64 n) (.int .i64 n)).run Try.prog w = .ok (.slice (some ⟨w.heap.size, 0, none⟩) n n) (w.alloc (.cells (u8s n fun _ => 0) 5)) := by
  rw [run_make_row' 23 5 (.int .u8 0) 1 Try.underlying23 info_u8 rfl .i64 .i64 n (by omega) (by omega) w]
  congr 4
  apply Array.ext_getElem?
  intro j
  by_cases hj : j < n
  · rw [get_u8s n _ j hj]; simp [madeCells, hj, Nat.mod_one]
  · rw [Array.getElem?_eq_none (by rw [size_madeCells]; omega), Array.getElem?_eq_none (by rw [size_u8s]; omega)]

set_option maxHeartbeats 400000 in
theorem sum_big (a b c : ByteArray) (w : World) (n : Nat) (hn : min3 a.size b.size c.size = n) (h : 3000 < n) :
    Calls Try.prog 3 #[.string a, .string b, .string c] w fun e w' => e = .returned (.bool true) ∧ Below w.heap.size w w' := by
  go_enter Try.func3, Try.ntmps3
  go_wp2_with fail
  refine (awake_any _).mono ?_
  rintro e w1 ⟨rfl, hb1⟩
  go_wp2_with fail
  go_ret
  exact ⟨rfl, hb1⟩

@[go_sem] theorem g_x8 (x y : UInt8) : bits .xor .u8 (x.toNat : Int) (y.toNat : Int) = ((x8 x y).toNat : Int) := by
  rw [u8_xor_nat _ _ (b8lt x) (b8lt y)]; unfold x8; rw [UInt8.toNat_xor]
def at8 (s : ByteArray) (k : Nat) : UInt8 := s.data.toList.getD k 0
theorem at8_of (s : ByteArray) (k : Nat) (h : k < s.size) : s[k] = at8 s k := by
  unfold at8
  rw [List.getD_eq_getElem?_getD, List.getElem?_eq_getElem (by simpa using h)]
  rfl
theorem u8s_bts (n : Nat) (f : Nat → UInt8) : u8s n f = bts ((List.range n).map f) := by
  apply Array.ext_getElem?
  intro j
  by_cases hj : j < n
  · rw [get_u8s n _ j hj, get_bts _ _ (by simpa using hj)]; simp
  · rw [Array.getElem?_eq_none (by rw [size_u8s]; omega), Array.getElem?_eq_none (by simp [bts]; omega)]
def rowAt (w : World) (b : Nat) (l : List UInt8) : Prop := w.heap[b]? = some (.cells (bts l) 5)
theorem conv_row {w : World} {b : Nat} {l : List UInt8} (h : rowAt w b l) (n cap : Nat) (hn : l.length = n) :
    (convert 23 9 (.slice (some ⟨b, 0, none⟩) n cap)).run Try.prog w = .ok (.string ⟨l.toArray⟩) w := by
  subst hn
  refine run_convert_bytes_back _ _ _ 5 _ _ l Try.underlying23 Try.underlying5 Try.underlying9 ?_
  intro j hj
  have : (⟨b, 0, none⟩ : Addr).add j = ⟨b, j, none⟩ := by unfold Addr.add; split <;> simp_all
  rw [this, cell_of_row _ _ _ _ _ _ h, get_bts l j hj]
theorem keepS {w w' : World} {b n cap : Nat} {l : List UInt8} (hn : l.length = n) (hb : Below w.heap.size w w')
    (h : (convert 23 9 (.slice (some ⟨b, 0, none⟩) n cap)).run Try.prog w = .ok (.string ⟨l.toArray⟩) w ∧ rowAt w b l) :
    (convert 23 9 (.slice (some ⟨b, 0, none⟩) n cap)).run Try.prog w' = .ok (.string ⟨l.toArray⟩) w' ∧ rowAt w' b l := by
  have hlt : b < w.heap.size := (Array.getElem?_eq_some_iff.1 h.2).1
  have hr : rowAt w' b l := by unfold rowAt; rw [hb.block b hlt]; exact h.2
  exact ⟨conv_row hr n cap hn, hr⟩
@[go_sem] theorem g_xr (x y : BitVec 32) : bits .xor .u32 (x.toNat : Int) (y.toNat : Int) = ((xr x y).toNat : Int) := g_xor x y
def x3 (a b c : ByteArray) (k : Nat) : UInt8 := x8 (x8 (at8 a k) (at8 b k)) (at8 c k)
def x3to (a b c : ByteArray) (k j : Nat) : UInt8 := if j < k then x3 a b c j else 0
theorem x3to_zero (a b c : ByteArray) : x3to a b c 0 = fun _ => 0 := by funext j; simp [x3to]
theorem x3to_succ (a b c : ByteArray) (k : Nat) : fupd (x3to a b c k) k (x3 a b c k) = x3to a b c (k + 1) := by
  funext j; unfold fupd x3to
  by_cases h : j = k
  · subst h; simp
  · rw [if_neg h]
    by_cases h2 : j < k
    · rw [if_pos h2, if_pos (by omega)]
    · rw [if_neg h2, if_neg (by omega)]

theorem ret_bool {a : Bool} (h : a = true) : Ending.returned (.bool a) = .returned (.bool true) := by rw [h]
theorem list_x3 (a b c : ByteArray) (k : Nat) (ha : k ≤ a.size) (hb : k ≤ b.size) (hc : k ≤ c.size) :
    (List.range k).map (x3 a b c) = List.zipWith x8 (List.zipWith x8 (List.take k a.data.toList) (List.take k b.data.toList)) (List.take k c.data.toList) := by
  have ha' : k ≤ a.data.size := ha
  have hb' : k ≤ b.data.size := hb
  have hc' : k ≤ c.data.size := hc
  apply List.ext_getElem
  · simp; omega
  · intro i h1 h2
    simp at h1
    simp [x3, at8]
    rw [Array.getElem?_eq_getElem (by omega), Array.getElem?_eq_getElem (by omega), Array.getElem?_eq_getElem (by omega)]
    rfl
theorem sum_end (a b c : ByteArray) (k : Nat) (ha : k ≤ a.size) (hb : k ≤ b.size) (hc : k ≤ c.size) :
    (((xr (xr (crc (List.take k a.data.toList)) (crc (List.take k b.data.toList))) (crc (List.take k c.data.toList))).toNat : Int) == ((crc (List.map (x3 a b c) (List.range k))).toNat : Int)) = true := by
  have ha' : k ≤ a.data.size := ha
  have hb' : k ≤ b.data.size := hb
  have hc' : k ≤ c.data.size := hc
  rw [list_x3 a b c k ha hb hc, crc_sum _ _ _ (by simp; omega) (by simp; omega)]
  simp

set_option maxHeartbeats 400000 in
theorem sum_small (a b c : ByteArray) (w : World) (n : Nat) (hn : min3 a.size b.size c.size = n) (h : n ≤ 3000) (ha : n ≤ a.size) (hb : n ≤ b.size) (hc : n ≤ c.size) :
    Calls Try.prog 3 #[.string a, .string b, .string c] w fun e w' => e = .returned (.bool true) ∧ Below w.heap.size w w' := by
  have hmk := make_u8s n (by omega)
  go_enter Try.func3, Try.ntmps3
  go_wp2_with fail
  refine (awake_any _).mono ?_
  rintro e w1 ⟨rfl, hb1⟩
  go_wp2_with fail
  clear hmk hn
  go_loopw [9] (fun i wr => ∃ k : Nat, k ≤ n ∧ i = .int .i64 k ∧ wr.heap[w1.heap.size]? = some (.cells (u8s n (x3to a b c k)) 5) ∧ Below w1.heap.size w1 wr) (fun i _ => n - (intOf i).toNat)
  case atStart => exact ⟨0, Nat.zero_le _, rfl, by rw [x3to_zero]; exact heap_alloc_new _ _, (Below.refl _ _).alloc (Nat.le_refl _) _⟩
  case round =>
    obtain ⟨k, hk, rfl, hrow, hbl⟩ := hrel
    have HR := Lib.hid hrow
    clear hrow
    by_cases hlt : k < n
    · have h1 : k < a.size := by omega
      have h2 : k < b.size := by omega
      have h3 : k < c.size := by omega
      have hcell : wr.cell? ⟨w1.heap.size, k, none⟩ = some (.int .u8 ((x3to a b c k k).toNat : Int)) := by rw [cell_of_row _ _ _ _ _ _ HR.out, get_u8s _ _ _ hlt]
      have hfr : wr.frozen? ⟨w1.heap.size, k, none⟩ = false := frozen_of_row _ _ _ _ _ HR.out
      go_wp2_with fail
      go_region
      go_wp2_with fail
      go_roundw
      case rel =>
        refine ⟨k + 1, by omega, by go_num, ?_, (hbl.setCell (Nat.le_refl _) _).drew⟩
        rw [heap_drew, heap_setCell_same _ _ _ _ _ _ HR.out, set_u8s, at8_of a k h1, at8_of b k h2, at8_of c k h3]
        rw [show x8 (x8 (at8 a k) (at8 b k)) (at8 c k) = x3 a b c k from rfl, x3to_succ]
      case measure => simp [intOf]; omega
    · obtain rfl : k = n := by omega
      have hrow : rowAt wr w1.heap.size ((List.range k).map (x3 a b c)) := by
        have h := HR.out
        rw [u8s_bts, show (List.range k).map (x3to a b c k) = (List.range k).map (x3 a b c) from List.map_congr_left fun j hj => by unfold x3to; rw [if_pos (List.mem_range.1 hj)]] at h
        exact h
      have e1 : (a.extract 0 k).size ≤ 1000000000 := by simp; omega
      have e2 : (b.extract 0 k).size ≤ 1000000000 := by simp; omega
      have e3 : (c.extract 0 k).size ≤ 1000000000 := by simp; omega
      have e4 : (ByteArray.mk ((List.range k).map (x3 a b c)).toArray).size ≤ 1000000000 := by simp [ByteArray.size]; omega
      have E1 := Lib.hid e1
      have E2 := Lib.hid e2
      have E3 := Lib.hid e3
      have E4 := Lib.hid e4
      clear e1 e2 e3 e4
      go_wp2_with fail
      go_region_held3 (fun w' => (convert 23 9 (.slice (some ⟨w1.heap.size, 0, none⟩) k k)).run Try.prog w' = .ok (.string ⟨((List.range k).map (x3 a b c)).toArray⟩) w' ∧ rowAt w' w1.heap.size ((List.range k).map (x3 a b c)))
        (first | exact ⟨conv_row (w := wr.drew) hrow k k (by simp), hrow⟩ | exact keepS (by simp) (by assumption) (by assumption))
        (first | (go_at_call 13; refine (of_str _ _ E1.out).mono ?_; rintro e w2 ⟨rfl, hb2⟩) | (go_at_call 13; refine (of_str _ _ E2.out).mono ?_; rintro e w2 ⟨rfl, hb2⟩) | (go_at_call 13; refine (of_str _ _ E3.out).mono ?_; rintro e w2 ⟨rfl, hb2⟩) | (go_at_call 13; refine (of_str _ _ E4.out).mono ?_; rintro e w2 ⟨rfl, hb2⟩))
      go_wp2_with fail
      go_ret
      refine ⟨ret_bool (sum_end a b c k ha hb hc), ?_⟩
      exact bel_trans (bel_trans (bel_trans (bel_trans (bel_drew (bel_trans hb1 hbl)) (by with_reducible assumption)) (by with_reducible assumption)) (by with_reducible assumption)) (by with_reducible assumption)

theorem sum_any (a b c : ByteArray) (w : World) :
    Calls Try.prog 3 #[.string a, .string b, .string c] w fun e w' => e = .returned (.bool true) ∧ Below w.heap.size w w' := by
  obtain ⟨n, hn, h1, h2, h3⟩ := min3_nat a.size b.size c.size
  by_cases h : 3000 < n
  · exact sum_big a b c w n hn h
  · exact sum_small a b c w n hn (by omega) h1 h2 h3

end Go.Proofs.Ytdcfefhlhphdiaa
