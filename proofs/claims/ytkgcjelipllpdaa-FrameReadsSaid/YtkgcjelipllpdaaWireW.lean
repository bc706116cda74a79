/- Walks over package wire: the Writer. -/
import Derived.Test.YtkgcjelipllpdaaFour
import Derived.Lib.AppendStr
import Derived.Carry
import Derived.Deep.DeepCutAuto
namespace Go.Proofs.Ytkgcjelipllpdaa
open Go.RowKit

/-- bytes as a list of cells -/
def cl (l : List UInt8) : List Value := l.map fun b => Value.int .u8 (b.toNat : Int)
theorem cl_append (l m : List UInt8) : cl (l ++ m) = cl l ++ cl m := by unfold cl; simp
theorem cl_length (l : List UInt8) : (cl l).length = l.length := by unfold cl; simp
theorem cl_one (l : List UInt8) : ∀ u ∈ cl l, u.oneCell' = true := by
  intro u hu
  unfold cl at hu
  obtain ⟨b, _, rfl⟩ := List.mem_map.1 hu
  rfl
/-- block b is a Writer of the bytes l, its row lies behind b -/
def wrt (w : World) (b : Nat) (l : List UInt8) (oa : Option Addr) (cap : Nat) : Prop :=
  w.heap[b]? = some (.cells #[.slice oa l.length cap] 72) ∧ w.ownsRow (b + 1) 5 1 (.slice oa l.length cap) l.length (cl l)
def Wrt (w : World) (b : Nat) (l : List UInt8) : Prop := ∃ oa cap, wrt w b l oa cap
theorem wrt.lt {w : World} {b : Nat} {l : List UInt8} {oa : Option Addr} {cap : Nat} (h : wrt w b l oa cap) : b < w.heap.size := (Array.getElem?_eq_some_iff.1 h.1).1
theorem wrt.cell {w : World} {b : Nat} {l : List UInt8} {oa : Option Addr} {cap : Nat} (h : wrt w b l oa cap) : w.cell? ⟨b, 0, none⟩ = some (.slice oa l.length cap) := by
  rw [cell_of_row _ _ _ _ _ _ h.1]; rfl

theorem infoU8 : (Try.prog.info? 5).map (fun i => (i.zero, i.size, i.bytes)) = some (some (.int .u8 0), 1, 1) := by kernel_rfl

/-- behind an append to the row and the store of what it gave -/
theorem wrt.grown {w w1 : World} {b : Nat} {l m : List UInt8} {oa : Option Addr} {cap : Nat} (h : wrt w b l oa cap) (o : Obj) {v : Value} (hown : w1.ownsRow (b + 1) 5 1 v (l.length + m.length) (cl l ++ cl m))
    (hg : (w.alloc o).grownBy w1 (Value.ownBlock (.slice oa l.length cap))) :
    ∃ oa' cap', v = .slice oa' (l.length + m.length) cap' ∧ w1.cell? ⟨b, 0, none⟩ = some (.slice oa l.length cap) ∧ w1.frozen? ⟨b, 0, none⟩ = false ∧
      wrt (w1.setCell ⟨b, 0, none⟩ (.slice oa' (l.length + m.length) cap')) b (l ++ m) oa' cap' ∧ Below b w (w1.setCell ⟨b, 0, none⟩ (.slice oa' (l.length + m.length) cap')) := by
  have hlt := h.lt
  have hne : some b ≠ Value.ownBlock (.slice oa l.length cap) := by
    intro e
    have := h.2.lt b e.symm
    omega
  have hb1 : w1.heap[b]? = some (.cells #[.slice oa l.length cap] 72) := by
    rw [hg.block b (by simp; omega) hne, Below.heap_alloc _ _ _ hlt]; exact h.1
  have hv : ∃ oa' cap', v = .slice oa' (l.length + m.length) cap' := by
    rcases hown.2 with ⟨rfl, h0⟩ | ⟨g, c, cur, rfl, _⟩
    · exact ⟨none, 0, by rw [h0]⟩
    · exact ⟨_, _, rfl⟩
  obtain ⟨oa', cap', rfl⟩ := hv
  refine ⟨oa', cap', rfl, by rw [cell_of_row _ _ _ _ _ _ hb1]; rfl, frozen_of_row _ _ _ _ _ hb1, ⟨?_, ?_⟩, ?_⟩
  · rw [heap_setCell_same _ _ _ _ _ _ hb1, List.length_append]; rfl
  · have := ownsRow_setCell_below hown (a := ⟨b, 0, none⟩) (by show b < b + 1; omega) (.slice oa' (l.length + m.length) cap')
    rw [List.length_append, cl_append]
    exact this
  · have h1 : Below b w (w.alloc o) := (Below.refl _ _).alloc (Nat.le_of_lt hlt) _
    have h2 : Below b w w1 := h1.grown hg (by simp; omega) (fun k e => by have := (h.2.lt k e).1; omega)
    exact h2.setCell (Nat.le_refl _) _

/-- a number's bytes, the highest first -/
def byt64 (n i : Nat) : UInt8 := UInt8.ofNat (n / 256 ^ i)
theorem byt64_val (n i : Nat) : ((byt64 n i).toNat : Int) = ((n : Int) / (256 ^ i : Nat)) % 256 := by
  unfold byt64; rw [UInt8.toNat_ofNat']; simp
def be4 (n : Nat) : List UInt8 := [byt64 n 3, byt64 n 2, byt64 n 1, byt64 n 0]
def be8 (n : Nat) : List UInt8 := [byt64 n 7, byt64 n 6, byt64 n 5, byt64 n 4, byt64 n 3, byt64 n 2, byt64 n 1, byt64 n 0]

/-- THE ARM: the new bytes lie in the block that was made last -/
theorem wapp {ops : Array Oper} {rest : List Oper} {o : Oper} {a : Act} {Q : Exit → Act → World → Prop} (w : World) {b : Nat} {l : List UInt8} {oa : Option Addr} {cap : Nat} (h : wrt w b l oa cap) (hgd : o.guard = none) (s x : Operand)
    (ho : o.op = .call { callee := .builtin .append, args := #[s, x], argTypes := #[46, 46] }) (hs : a.eval s = .slice oa l.length cap) (k : Nat) (hx : a.eval x = .slice (some ⟨w.heap.size, 0, none⟩) k k)
    (m : List UInt8) (vals : List Value) (hm : m.length = k) (hv : vals = cl m) (hl : l.length + k ≤ 1000000000)
    (hK : ∀ oa' cap' w1, w1.cell? ⟨b, 0, none⟩ = some (.slice oa l.length cap) → w1.frozen? ⟨b, 0, none⟩ = false → wrt (w1.setCell ⟨b, 0, none⟩ (.slice oa' (l ++ m).length cap')) b (l ++ m) oa' cap' →
      Below b w (w1.setCell ⟨b, 0, none⟩ (.slice oa' (l ++ m).length cap')) → wpList Try.prog ops Q rest (a.put o.dst (.slice oa' (l ++ m).length cap')) w1) :
    wpList Try.prog ops Q (o :: rest) a (w.alloc (.cells vals.toArray 5)) := by
  obtain ⟨i0, hi, hz0, hz1, hz2⟩ := info_parts infoU8
  subst hm; subst hv
  refine wpList_append_own _ hgd s x 46 ho (b + 1) 5 i0 (.int .u8 0) 1 1 Try.underlying46 hi hz0 hz1 hz2 rfl (by decide) _ _ _ hs (h.2.alloc _) ⟨w.heap.size, 0, none⟩ m.length m.length (cl m) hx
    (by rw [cl_length]; omega) ?_ (cl_one m) (by unfold maxLen; omega) (by omega) (by have := h.lt; simp; omega) ?_
  · intro j u hj
    have : (⟨w.heap.size, 0, none⟩ : Addr).add j = ⟨w.heap.size, j, none⟩ := by unfold Addr.add; split <;> simp_all
    rw [this, World.cell?_alloc_new]
    simpa using hj
  · intro v' w1 hown hg _
    obtain ⟨oa', cap', rfl, hc, hf, hw, hb⟩ := h.grown _ hown hg
    have hK' := hK oa' cap' w1 hc hf
    rw [List.length_append] at hK'
    exact hK' hw hb

theorem b8v (n i : Nat) (p : Int) (hp : p = ((256 ^ i : Nat) : Int)) : Value.int .u8 ((n : Int) / p % 256) = .int .u8 ((byt64 n i).toNat : Int) := by
  subst hp; rw [byt64_val]
theorem b8t (n i : Nat) (p : Int) (hp : p = ((256 ^ i : Nat) : Int)) (h : n / 256 ^ i < 256) : Value.int .u8 ((n : Int) / p) = .int .u8 ((byt64 n i).toNat : Int) := by
  subst hp
  rw [byt64_val]
  have : ((n : Int) / ((256 ^ i : Nat) : Int)) = ((n / 256 ^ i : Nat) : Int) := by simp
  rw [this]
  generalize n / 256 ^ i = q at *
  congr 1
  omega
theorem b8z (n : Nat) : Value.int .u8 ((n : Int) % 256) = .int .u8 ((byt64 n 0).toNat : Int) := by
  rw [byt64_val]; simp

set_option maxHeartbeats 2000000 in
theorem wfixed4 (b : Nat) (l : List UInt8) (oa : Option Addr) (cap : Nat) (n : Nat) (w : World) (hn : n < 4294967296) (hl : l.length ≤ 1000000) (h : wrt w b l oa cap) :
    Calls Try.prog 48 #[.pointer (some ⟨b, 0, none⟩), .int .u64 n, .int .i64 4] w
      fun e w' => e = .returned (.tuple #[]) ∧ Wrt w' b (l ++ be4 n) ∧ Below b w w' := by
  have hc := h.cell
  have H := Lib.hid h
  have HL := Lib.hid hl
  have E0 := Lib.hid (show [Value.int .u8 ((n : Int) / 16777216), .int .u8 ((n : Int) / 65536 % 256)] = cl [byt64 n 3, byt64 n 2] by rw [b8t n 3 _ (by decide) (by omega), b8v n 2 _ (by decide)]; rfl)
  have E1 := Lib.hid (show [Value.int .u8 ((n : Int) / 256 % 256)] = cl [byt64 n 1] by rw [b8v n 1 _ (by decide)]; rfl)
  have E2 := Lib.hid (show [Value.int .u8 ((n : Int) % 256)] = cl [byt64 n 0] by rw [b8z n]; rfl)
  clear h hl
  go_enter Try.func48, Try.ntmps48
  go_upto_region 7 with (at_builtin; refine wapp w H.out rfl _ _ rfl rfl 2 rfl [byt64 n 3, byt64 n 2] _ rfl E0.out (by have := HL.out; omega) ?_; intro oa1 cap1 w1 hc1 hf1 hw1 hb1)
  clear hc1 hf1 hc
  have hll1 : (l ++ [byt64 n 3, byt64 n 2]).length = l.length + 2 := by simp
  rw [← hll1]
  obtain ⟨l1, el1⟩ : ∃ x, l ++ [byt64 n 3, byt64 n 2] = x := ⟨_, rfl⟩
  rw [el1] at hw1 hb1 hll1 ⊢
  generalize w1.setCell ⟨b, 0, none⟩ (.slice oa1 l1.length cap1) = v1 at *
  have hcc1 := hw1.cell
  have H1 := Lib.hid hw1
  have HE1 := Lib.hid el1
  have HL1 := Lib.hid (show l1.length ≤ 1000000 + 2 by have := HL.out; omega)
  clear hw1 el1 hll1
  go_upto_region 8 with (at_builtin; refine wapp v1 H1.out rfl _ _ rfl rfl 1 rfl [byt64 n 1] _ rfl E1.out (by have := HL1.out; omega) ?_; intro oa2 cap2 w2 hc2 hf2 hw2 hb2)
  clear hc2 hf2 hcc1
  have hll2 : (l1 ++ [byt64 n 1]).length = l1.length + 1 := by simp
  rw [← hll2]
  obtain ⟨l2, el2⟩ : ∃ x, l1 ++ [byt64 n 1] = x := ⟨_, rfl⟩
  rw [el2] at hw2 hb2 hll2 ⊢
  generalize w2.setCell ⟨b, 0, none⟩ (.slice oa2 l2.length cap2) = v2 at *
  have hcc2 := hw2.cell
  have H2 := Lib.hid hw2
  have HE2 := Lib.hid el2
  have HL2 := Lib.hid (show l2.length ≤ 1000000 + 3 by have := HL1.out; omega)
  clear hw2 el2 hll2
  go_wp2_with (at_builtin; refine wapp v2 H2.out rfl _ _ rfl rfl 1 rfl [byt64 n 0] _ rfl E2.out (by have := HL2.out; omega) ?_; intro oa3 cap3 w3 hc3 hf3 hw3 hb3)
  go_end0
  have hll3 : (l2 ++ [byt64 n 0]).length = l2.length + 1 := by simp
  rw [← hll3]
  refine ⟨rfl, ⟨oa3, cap3, ?_⟩, ((hb1).trans hb2).trans hb3⟩
  have e : l ++ be4 n = l2 ++ [byt64 n 0] := by rw [← HE2.out, ← HE1.out, show be4 n = [byt64 n 3, byt64 n 2] ++ [byt64 n 1] ++ [byt64 n 0] from rfl]; simp
  rw [e]
  exact hw3

set_option maxHeartbeats 2000000 in
theorem wfixed8 (b : Nat) (l : List UInt8) (oa : Option Addr) (cap : Nat) (n : Nat) (w : World) (hn : n < 18446744073709551616) (hl : l.length ≤ 1000000) (h : wrt w b l oa cap) :
    Calls Try.prog 48 #[.pointer (some ⟨b, 0, none⟩), .int .u64 n, .int .i64 8] w
      fun e w' => e = .returned (.tuple #[]) ∧ Wrt w' b (l ++ be8 n) ∧ Below b w w' := by
  have hc := h.cell
  have H := Lib.hid h
  have HL := Lib.hid hl
  have E0 := Lib.hid (show [Value.int .u8 ((n : Int) / 72057594037927936), .int .u8 ((n : Int) / 281474976710656 % 256), .int .u8 ((n : Int) / 1099511627776 % 256), .int .u8 ((n : Int) / 4294967296 % 256)] = cl [byt64 n 7, byt64 n 6, byt64 n 5, byt64 n 4] by rw [b8t n 7 _ (by decide) (by omega), b8v n 6 _ (by decide), b8v n 5 _ (by decide), b8v n 4 _ (by decide)]; rfl)
  have E1 := Lib.hid (show [Value.int .u8 ((n : Int) / 16777216 % 256), .int .u8 ((n : Int) / 65536 % 256)] = cl [byt64 n 3, byt64 n 2] by rw [b8v n 3 _ (by decide), b8v n 2 _ (by decide)]; rfl)
  have E2 := Lib.hid (show [Value.int .u8 ((n : Int) / 256 % 256)] = cl [byt64 n 1] by rw [b8v n 1 _ (by decide)]; rfl)
  have E3 := Lib.hid (show [Value.int .u8 ((n : Int) % 256)] = cl [byt64 n 0] by rw [b8z n]; rfl)
  clear h hl
  go_enter Try.func48, Try.ntmps48
  go_upto_region 6 with (at_builtin; refine wapp w H.out rfl _ _ rfl rfl 4 rfl [byt64 n 7, byt64 n 6, byt64 n 5, byt64 n 4] _ rfl E0.out (by have := HL.out; omega) ?_; intro oa1 cap1 w1 hc1 hf1 hw1 hb1)
  clear hc1 hf1 hc
  have hll1 : (l ++ [byt64 n 7, byt64 n 6, byt64 n 5, byt64 n 4]).length = l.length + 4 := by simp
  rw [← hll1]
  obtain ⟨l1, el1⟩ : ∃ x, l ++ [byt64 n 7, byt64 n 6, byt64 n 5, byt64 n 4] = x := ⟨_, rfl⟩
  rw [el1] at hw1 hb1 hll1 ⊢
  generalize w1.setCell ⟨b, 0, none⟩ (.slice oa1 l1.length cap1) = v1 at *
  have hcc1 := hw1.cell
  have H1 := Lib.hid hw1
  have HE1 := Lib.hid el1
  have HL1 := Lib.hid (show l1.length ≤ 1000000 + 4 by have := HL.out; omega)
  clear hw1 el1 hll1
  go_upto_region 7 with (at_builtin; refine wapp v1 H1.out rfl _ _ rfl rfl 2 rfl [byt64 n 3, byt64 n 2] _ rfl E1.out (by have := HL1.out; omega) ?_; intro oa2 cap2 w2 hc2 hf2 hw2 hb2)
  clear hc2 hf2 hcc1
  have hll2 : (l1 ++ [byt64 n 3, byt64 n 2]).length = l1.length + 2 := by simp
  rw [← hll2]
  obtain ⟨l2, el2⟩ : ∃ x, l1 ++ [byt64 n 3, byt64 n 2] = x := ⟨_, rfl⟩
  rw [el2] at hw2 hb2 hll2 ⊢
  generalize w2.setCell ⟨b, 0, none⟩ (.slice oa2 l2.length cap2) = v2 at *
  have hcc2 := hw2.cell
  have H2 := Lib.hid hw2
  have HE2 := Lib.hid el2
  have HL2 := Lib.hid (show l2.length ≤ 1000000 + 6 by have := HL1.out; omega)
  clear hw2 el2 hll2
  go_upto_region 8 with (at_builtin; refine wapp v2 H2.out rfl _ _ rfl rfl 1 rfl [byt64 n 1] _ rfl E2.out (by have := HL2.out; omega) ?_; intro oa3 cap3 w3 hc3 hf3 hw3 hb3)
  clear hc3 hf3 hcc2
  have hll3 : (l2 ++ [byt64 n 1]).length = l2.length + 1 := by simp
  rw [← hll3]
  obtain ⟨l3, el3⟩ : ∃ x, l2 ++ [byt64 n 1] = x := ⟨_, rfl⟩
  rw [el3] at hw3 hb3 hll3 ⊢
  generalize w3.setCell ⟨b, 0, none⟩ (.slice oa3 l3.length cap3) = v3 at *
  have hcc3 := hw3.cell
  have H3 := Lib.hid hw3
  have HE3 := Lib.hid el3
  have HL3 := Lib.hid (show l3.length ≤ 1000000 + 7 by have := HL2.out; omega)
  clear hw3 el3 hll3
  go_wp2_with (at_builtin; refine wapp v3 H3.out rfl _ _ rfl rfl 1 rfl [byt64 n 0] _ rfl E3.out (by have := HL3.out; omega) ?_; intro oa4 cap4 w4 hc4 hf4 hw4 hb4)
  go_end0
  have hll4 : (l3 ++ [byt64 n 0]).length = l3.length + 1 := by simp
  rw [← hll4]
  refine ⟨rfl, ⟨oa4, cap4, ?_⟩, (((hb1).trans hb2).trans hb3).trans hb4⟩
  have e : l ++ be8 n = l3 ++ [byt64 n 0] := by rw [← HE3.out, ← HE2.out, ← HE1.out, show be8 n = [byt64 n 7, byt64 n 6, byt64 n 5, byt64 n 4] ++ [byt64 n 3, byt64 n 2] ++ [byt64 n 1] ++ [byt64 n 0] from rfl]; simp
  rw [e]
  exact hw4

end Go.Proofs.Ytkgcjelipllpdaa
