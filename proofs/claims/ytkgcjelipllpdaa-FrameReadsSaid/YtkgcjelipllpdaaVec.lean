/- Rows of uint32 and uint8 numbers as the cells of an array: reading and writing one. -/
import Derived.WalkKit
import Derived.WalkSpells
import Derived.WalkLawsBesides
import Derived.Lib.Hide
namespace Go.Proofs.Ytkgcjelipllpdaa
open Go.RowKit

theorem ret_int {k : IntKind} {a b : Int} (h : a = b) : Ending.returned (.int k a) = .returned (.int k b) := by rw [h]
theorem val_int {k : IntKind} {a b : Int} (h : a = b) : Value.int k a = .int k b := by rw [h]

def u32s (n : Nat) (f : Nat → BitVec 32) : Array Value := Array.ofFn (n := n) fun i => .int .u32 ((f i.val).toNat : Int)
def u8s (n : Nat) (f : Nat → UInt8) : Array Value := Array.ofFn (n := n) fun i => .int .u8 ((f i.val).toNat : Int)
def fupd {α : Type} (f : Nat → α) (i : Nat) (x : α) (j : Nat) : α := if j = i then x else f j
theorem fupd_same {α : Type} (f : Nat → α) (i : Nat) (x : α) : fupd f i x i = x := by simp [fupd]
theorem fupd_twice {α : Type} (f : Nat → α) (i : Nat) (x y : α) : fupd (fupd f i x) i y = fupd f i y := by
  funext j; unfold fupd; split <;> rfl

@[go_sem] theorem size_u32s (n : Nat) (f : Nat → BitVec 32) : (u32s n f).size = n := by simp [u32s]
@[go_sem] theorem size_u8s (n : Nat) (f : Nat → UInt8) : (u8s n f).size = n := by simp [u8s]
@[go_sem] theorem get_u32s (n : Nat) (f : Nat → BitVec 32) (i : Nat) (h : i < n) : (u32s n f)[i]? = some (.int .u32 ((f i).toNat : Int)) := by
  simp [u32s, h]
@[go_sem] theorem get_u8s (n : Nat) (f : Nat → UInt8) (i : Nat) (h : i < n) : (u8s n f)[i]? = some (.int .u8 ((f i).toNat : Int)) := by
  simp [u8s, h]
theorem set_u32s (n : Nat) (f : Nat → BitVec 32) (i : Nat) (x : BitVec 32) : (u32s n f).setIfInBounds i (.int .u32 (x.toNat : Int)) = u32s n (fupd f i x) := by
  apply Array.ext_getElem?
  intro j
  rw [Array.getElem?_setIfInBounds, size_u32s]
  by_cases hij : i = j
  · subst hij
    by_cases h : i < n
    · simp [h, get_u32s, fupd]
    · rw [if_pos rfl, if_neg h]; symm; apply Array.getElem?_eq_none; rw [size_u32s]; omega
  · rw [if_neg hij]
    by_cases h : j < n
    · rw [get_u32s n _ j h, get_u32s n _ j h]; (have hji : ¬ j = i := fun e => hij e.symm); simp [fupd, hji]
    · rw [Array.getElem?_eq_none (by rw [size_u32s]; omega), Array.getElem?_eq_none (by rw [size_u32s]; omega)]
theorem set_u8s (n : Nat) (f : Nat → UInt8) (i : Nat) (x : UInt8) : (u8s n f).setIfInBounds i (.int .u8 (x.toNat : Int)) = u8s n (fupd f i x) := by
  apply Array.ext_getElem?
  intro j
  rw [Array.getElem?_setIfInBounds, size_u8s]
  by_cases hij : i = j
  · subst hij
    by_cases h : i < n
    · simp [h, get_u8s, fupd]
    · rw [if_pos rfl, if_neg h]; symm; apply Array.getElem?_eq_none; rw [size_u8s]; omega
  · rw [if_neg hij]
    by_cases h : j < n
    · rw [get_u8s n _ j h, get_u8s n _ j h]; (have hji : ¬ j = i := fun e => hij e.symm); simp [fupd, hji]
    · rw [Array.getElem?_eq_none (by rw [size_u8s]; omega), Array.getElem?_eq_none (by rw [size_u8s]; omega)]
theorem u32s_congr (n : Nat) {f g : Nat → BitVec 32} (h : ∀ i, i < n → f i = g i) : u32s n f = u32s n g := by
  apply Array.ext_getElem?
  intro j
  by_cases hj : j < n
  · rw [get_u32s n _ j hj, get_u32s n _ j hj, h j hj]
  · rw [Array.getElem?_eq_none (by rw [size_u32s]; omega), Array.getElem?_eq_none (by rw [size_u32s]; omega)]

@[go_sem] theorem elem_u32s (n : Nat) (f : Nat → BitVec 32) (i : Nat) (h : i < (u32s n f).size) : (u32s n f)[i] = .int .u32 ((f i).toNat : Int) := by
  have h' := h
  rw [size_u32s] at h'
  have := get_u32s n f i h'
  rw [Array.getElem?_eq_getElem h] at this
  exact Option.some.inj this
@[go_sem] theorem elem_u8s (n : Nat) (f : Nat → UInt8) (i : Nat) (h : i < (u8s n f).size) : (u8s n f)[i] = .int .u8 ((f i).toNat : Int) := by
  have h' := h
  rw [size_u8s] at h'
  have := get_u8s n f i h'
  rw [Array.getElem?_eq_getElem h] at this
  exact Option.some.inj this
theorem one_u32s (n : Nat) (f : Nat → BitVec 32) : (u32s n f).all (·.oneCell') = true := by
  rw [Array.all_eq_true_iff_forall_mem]
  intro v hv
  simp [u32s, Array.mem_ofFn] at hv
  obtain ⟨i, rfl⟩ := hv
  rfl
theorem one_u8s (n : Nat) (f : Nat → UInt8) : (u8s n f).all (·.oneCell') = true := by
  rw [Array.all_eq_true_iff_forall_mem]
  intro v hv
  simp [u8s, Array.mem_ofFn] at hv
  obtain ⟨i, rfl⟩ := hv
  rfl

theorem below_setRow {B : Nat} {a w : World} (h : Below B a w) {g : Nat} (hB : B ≤ g) (cs : Array Value) : Below B a (w.setRow g cs) :=
  h.trans ⟨rfl, rfl, rfl, by simp, fun k hk => setRow_other w g k cs (by omega)⟩

theorem bel_trans {w w1 w2 : World} (h : Below w.heap.size w w1) (k : Below w1.heap.size w1 w2) : Below w.heap.size w w2 := h.trans (k.mono h.size)
theorem bel_drew {w w1 : World} (h : Below w.heap.size w w1) : Below w.heap.size w w1.drew := h.drew
theorem bel_undrew {w w1 : World} (h : Below w.drew.heap.size w.drew w1) : Below w.heap.size w w1 := ⟨h.os, h.tape, h.output, h.size, h.block⟩
theorem bel_alloc {w w1 : World} (h : Below w.heap.size w w1) (o : Obj) : Below w.heap.size w (w1.alloc o) := h.alloc h.size o

attribute [irreducible] u32s u8s

end Go.Proofs.Ytkgcjelipllpdaa
