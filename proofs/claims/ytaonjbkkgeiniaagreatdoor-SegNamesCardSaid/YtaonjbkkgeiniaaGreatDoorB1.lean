import Derived.WalkKit
import Derived.WalkSpells
import Derived.WalkLawsBesides
import Derived.Lib.Hide
import Derived.Test.YtaonjbkkgeiniaaGreatDoorProg
import Derived.Laws.IdiomStrings
import Derived.Lib.AppendStr
import Derived.Carry
import Derived.Deep.DeepCutAuto
import Derived.Laws.BitsAllLaws
import Derived.BigQuiet
/- The checksum of package crc in plain terms (32-bit words): step, table, run, and the spelling of Go's operations on uint32 and uint8 as operations on words. -/
namespace Go.Proofs.YtaonjbkkgeiniaaGreatDoor

/-! ### Go's operations on uint32, as operations on words -/
theorem b32lt (x : BitVec 32) : x.toNat < 4294967296 := x.isLt
theorem b8lt (x : UInt8) : x.toNat < 256 := UInt8.toNat_lt x

theorem g_xor (x y : BitVec 32) : bits .xor .u32 (x.toNat : Int) (y.toNat : Int) = ((x ^^^ y).toNat : Int) := by
  rw [u32_xor_nat _ _ (b32lt x) (b32lt y), BitVec.toNat_xor]
theorem g_and (x y : BitVec 32) : bits .and .u32 (x.toNat : Int) (y.toNat : Int) = ((x &&& y).toNat : Int) := by
  rw [u32_and_nat _ _ (b32lt x) (b32lt y), BitVec.toNat_and]
theorem g_or (x y : BitVec 32) : bits .or .u32 (x.toNat : Int) (y.toNat : Int) = ((x ||| y).toNat : Int) := by
  rw [u32_or_nat _ _ (b32lt x) (b32lt y), BitVec.toNat_or]
theorem g_xor_n (x : BitVec 32) (n : Nat) (h : n < 4294967296) : bits .xor .u32 (x.toNat : Int) (n : Int) = ((x ^^^ BitVec.ofNat 32 n).toNat : Int) := by
  rw [u32_xor_nat _ _ (b32lt x) h, BitVec.toNat_xor, BitVec.toNat_ofNat, Nat.mod_eq_of_lt (show n < 2 ^ 32 from h)]
theorem g_and_n (x : BitVec 32) (n : Nat) (h : n < 4294967296) : bits .and .u32 (x.toNat : Int) (n : Int) = ((x &&& BitVec.ofNat 32 n).toNat : Int) := by
  rw [u32_and_nat _ _ (b32lt x) h, BitVec.toNat_and, BitVec.toNat_ofNat, Nat.mod_eq_of_lt (show n < 2 ^ 32 from h)]
theorem g_shr (x : BitVec 32) (k : Nat) : ((x.toNat : Int) / ((2 ^ k : Nat) : Int)) = ((x >>> k).toNat : Int) := by
  rw [BitVec.toNat_ushiftRight, Nat.shiftRight_eq_div_pow]; rfl

theorem shr1 (x : BitVec 32) : ((x.toNat : Int) / (2 : Int)) = ((x >>> 1).toNat : Int) := g_shr x 1
theorem shr8 (x : BitVec 32) : ((x.toNat : Int) / (256 : Int)) = ((x >>> 8).toNat : Int) := g_shr x 8
theorem xor_poly (x : BitVec 32) : bits .xor .u32 ((x.toNat : Int) / 2) 3988292384 = ((x >>> 1 ^^^ 0xEDB88320#32).toNat : Int) := by
  rw [shr1]
  exact g_xor_n (x >>> 1) 3988292384 (by omega)
theorem testBit1 (i : Nat) (h : i ≠ 0) : Nat.testBit 1 i = false := by
  cases ht : Nat.testBit 1 i
  · rfl
  · exact absurd (Nat.testBit_one_eq_true_iff_self_eq_zero.1 ht) h
theorem and_one (x : BitVec 32) : x &&& 1#32 = if x.getLsbD 0 then 1#32 else 0#32 := by
  apply BitVec.eq_of_getLsbD_eq
  intro i hi
  rw [BitVec.getLsbD_and, BitVec.getLsbD_ofNat]
  by_cases h0 : i = 0
  · subst h0; cases hx : x.getLsbD 0 <;> simp
  · have h1 : (1#32).getLsbD i = false := by rw [BitVec.getLsbD_ofNat, testBit1 i h0]; simp
    rw [testBit1 i h0]
    cases hx : x.getLsbD 0
    · simp
    · simp only [Bool.and_false, if_true]; exact h1.symm
theorem and1 (x : BitVec 32) : bits .and .u32 (x.toNat : Int) 1 = if x.getLsbD 0 then 1 else 0 := by
  have h := g_and_n x 1 (by omega)
  rw [show ((1 : Int)) = ((1 : Nat) : Int) from rfl, h, and_one]
  cases x.getLsbD 0 <;> rfl

/-! ### the checksum -/
def poly : BitVec 32 := 0xEDB88320#32
def step (c : BitVec 32) : BitVec 32 := if c.getLsbD 0 then c >>> 1 ^^^ poly else c >>> 1
def down (c : BitVec 32) : BitVec 32 := if c.getLsbD 31 then (c ^^^ poly) <<< 1 ||| 1#32 else c <<< 1
def up : Nat → BitVec 32 → BitVec 32
  | 0, c => c
  | n + 1, c => up n (step c)
def dn : Nat → BitVec 32 → BitVec 32
  | 0, c => c
  | n + 1, c => dn n (down c)
/-- a byte as a word -/
def ext (b : UInt8) : BitVec 32 := BitVec.ofNat 32 b.toNat
def upd (c : BitVec 32) (b : UInt8) : BitVec 32 := up 8 (c ^^^ ext b)
def run (c : BitVec 32) (l : List UInt8) : BitVec 32 := l.foldl upd c
def bk (c : BitVec 32) (l : List UInt8) : BitVec 32 := l.foldr (fun b c => dn 8 c ^^^ ext b) c
/-- 'not' and 'xor' of words, under names that simp leaves alone -/
def nt (c : BitVec 32) : BitVec 32 := ~~~ c
def xr (a b : BitVec 32) : BitVec 32 := a ^^^ b
def add (c : BitVec 32) (l : List UInt8) : BitVec 32 := nt (run (nt c) l)
def back (c : BitVec 32) (l : List UInt8) : BitVec 32 := nt (bk (nt c) l)
def crc (l : List UInt8) : BitVec 32 := add 0#32 l
def tab (i : Nat) : BitVec 32 := up 8 (BitVec.ofNat 32 i)

theorem step_xor (a b : BitVec 32) : step (a ^^^ b) = step a ^^^ step b := by
  unfold step
  rw [BitVec.getLsbD_xor, BitVec.ushiftRight_xor_distrib]
  cases a.getLsbD 0 <;> cases b.getLsbD 0 <;> simp
  · ac_rfl
  · ac_rfl
  · rw [show a >>> 1 ^^^ poly ^^^ (b >>> 1 ^^^ poly) = a >>> 1 ^^^ b >>> 1 ^^^ (poly ^^^ poly) from by ac_rfl]
    simp
theorem step_zero : step 0#32 = 0#32 := by decide
theorem up_xor (n : Nat) : ∀ a b, up n (a ^^^ b) = up n a ^^^ up n b := by
  induction n with
  | zero => intro a b; rfl
  | succ n ih => intro a b; show up n (step (a ^^^ b)) = up n (step a) ^^^ up n (step b); rw [step_xor, ih]
theorem up_zero (n : Nat) : up n 0#32 = 0#32 := by
  induction n with
  | zero => rfl
  | succ n ih => show up n (step 0#32) = _; rw [step_zero, ih]
theorem up_add (m : Nat) : ∀ n c, up (m + n) c = up n (up m c) := by
  induction m with
  | zero => intro n c; rw [Nat.zero_add]; rfl
  | succ m ih => intro n c; rw [Nat.add_right_comm]; show up (m + n) (step c) = up n (up m (step c)); rw [ih]
theorem dn_add (m : Nat) : ∀ n c, dn (m + n) c = dn n (dn m c) := by
  induction m with
  | zero => intro n c; rw [Nat.zero_add]; rfl
  | succ m ih => intro n c; rw [Nat.add_right_comm]; show dn (m + n) (down c) = dn n (dn m (down c)); rw [ih]

theorem poly31 : poly.getLsbD 31 = true := by decide
theorem down_step (c : BitVec 32) : down (step c) = c := by
  unfold step down
  have h31 : (c >>> 1).getLsbD 31 = false := by rw [BitVec.getLsbD_ushiftRight]; exact BitVec.getLsbD_of_ge _ _ (by omega)
  have hb : ∀ v : BitVec 32, (∀ i, i < 32 → v.getLsbD i = c.getLsbD i) → v = c := fun v h => BitVec.eq_of_getLsbD_eq fun i hi => h i hi
  cases h0 : c.getLsbD 0
  · simp only [Bool.false_eq_true, if_false]
    rw [h31]
    simp only [Bool.false_eq_true, if_false]
    apply hb
    intro i hi
    rw [BitVec.getLsbD_shiftLeft, BitVec.getLsbD_ushiftRight]
    by_cases hi0 : i = 0
    · subst hi0; rw [h0]; simp
    · have e : 1 + (i - 1) = i := by omega
      rw [e]; simp [hi, show ¬ i < 1 by omega]
  · simp only [if_true]
    rw [BitVec.getLsbD_xor, h31, poly31]
    simp only [Bool.false_xor, if_true]
    rw [show c >>> 1 ^^^ poly ^^^ poly = c >>> 1 from by rw [BitVec.xor_assoc, BitVec.xor_self, BitVec.xor_zero]]
    apply hb
    intro i hi
    rw [BitVec.getLsbD_or, BitVec.getLsbD_shiftLeft, BitVec.getLsbD_ushiftRight]
    by_cases hi0 : i = 0
    · subst hi0; simp [h0]
    · have e : 1 + (i - 1) = i := by omega
      rw [e, BitVec.getLsbD_ofNat, testBit1 i hi0]; simp [hi, show ¬ i < 1 by omega]
theorem step_down (c : BitVec 32) : step (down c) = c := by
  unfold step down
  cases h : c.getLsbD 31
  · simp only [Bool.false_eq_true, if_false]
    have h0 : (c <<< 1).getLsbD 0 = false := by rw [BitVec.getLsbD_shiftLeft]; simp
    rw [h0]
    simp only [Bool.false_eq_true, if_false]
    apply BitVec.eq_of_getLsbD_eq
    intro i hi
    rw [BitVec.getLsbD_ushiftRight, BitVec.getLsbD_shiftLeft]
    by_cases hi1 : i = 31
    · subst hi1; rw [h]; simp
    · simp [show 1 + i < 32 by omega, show ¬ 1 + i < 1 by omega]
  · simp only [if_true]
    have h0 : ((c ^^^ poly) <<< 1 ||| 1#32).getLsbD 0 = true := by rw [BitVec.getLsbD_or, BitVec.getLsbD_ofNat]; simp
    rw [h0]
    simp only [if_true]
    have e : ((c ^^^ poly) <<< 1 ||| 1#32) >>> 1 = c ^^^ poly := by
      apply BitVec.eq_of_getLsbD_eq
      intro i hi
      rw [BitVec.getLsbD_ushiftRight, BitVec.getLsbD_or, BitVec.getLsbD_shiftLeft, BitVec.getLsbD_ofNat, testBit1 (1 + i) (by omega)]
      by_cases hi1 : i = 31
      · subst hi1; rw [BitVec.getLsbD_xor, h, poly31]; rfl
      · simp [show 1 + i < 32 by omega, show ¬ 1 + i < 1 by omega]
    rw [e, BitVec.xor_assoc, BitVec.xor_self, BitVec.xor_zero]
theorem dn_up (n : Nat) : ∀ c, dn n (up n c) = c := by
  induction n with
  | zero => intro c; rfl
  | succ n ih =>
    intro c
    rw [show up (n + 1) c = up 1 (up n c) from by rw [← up_add]]
    show dn n (down (step (up n c))) = c
    rw [down_step, ih]
theorem up_dn (n : Nat) : ∀ c, up n (dn n c) = c := by
  induction n with
  | zero => intro c; rfl
  | succ n ih =>
    intro c
    rw [show dn (n + 1) c = dn 1 (dn n c) from by rw [← dn_add]]
    show up n (step (down (dn n c))) = c
    rw [step_down, ih]
theorem up_inj (n : Nat) {a b : BitVec 32} (h : up n a = up n b) : a = b := by rw [← dn_up n a, h, dn_up]

theorem run_nil (c : BitVec 32) : run c [] = c := rfl
theorem run_append (c : BitVec 32) (l m : List UInt8) : run c (l ++ m) = run (run c l) m := by unfold run; rw [List.foldl_append]
theorem bk_append (c : BitVec 32) (l m : List UInt8) : bk c (l ++ m) = bk (bk c m) l := by unfold bk; rw [List.foldr_append]
theorem xor_xor_cancel (a b : BitVec 32) : a ^^^ b ^^^ b = a := by rw [BitVec.xor_assoc, BitVec.xor_self, BitVec.xor_zero]
theorem nt_nt (a : BitVec 32) : nt (nt a) = a := by unfold nt; simp
theorem bk_run (l : List UInt8) : ∀ c, bk (run c l) l = c := by
  induction l with
  | nil => intro c; rfl
  | cons b l ih =>
    intro c
    show dn 8 (bk (run (upd c b) l) l) ^^^ ext b = c
    rw [ih, upd, dn_up, xor_xor_cancel]
theorem run_bk (l : List UInt8) : ∀ c, run (bk c l) l = c := by
  induction l with
  | nil => intro c; rfl
  | cons b l ih =>
    intro c
    show run (upd (dn 8 (bk c l) ^^^ ext b) b) l = c
    rw [upd, xor_xor_cancel, up_dn, ih]

end Go.Proofs.YtaonjbkkgeiniaaGreatDoor

/- Rows of uint32 and uint8 numbers as the cells of an array: reading and writing one. -/
namespace Go.Proofs.YtaonjbkkgeiniaaGreatDoor
open Go.RowKit

theorem ret_int {k : IntKind} {a b : Int} (h : a = b) : Ending.returned (.int k a) = .returned (.int k b) := by rw [h]
theorem val_int {k : IntKind} {a b : Int} (h : a = b) : Value.int k a = .int k b := by rw [h]

def u32s (n : Nat) (f : Nat → BitVec 32) : Array Value := Array.ofFn (n := n) fun i => .int .u32 ((f i.val).toNat : Int)
def u8s (n : Nat) (f : Nat → UInt8) : Array Value := Array.ofFn (n := n) fun i => .int .u8 ((f i.val).toNat : Int)
def fupd {α : Type} (f : Nat → α) (i : Nat) (x : α) (j : Nat) : α := if j = i then x else f j
theorem fupd_same {α : Type} (f : Nat → α) (i : Nat) (x : α) : fupd f i x i = x := by simp [fupd]
theorem fupd_twice {α : Type} (f : Nat → α) (i : Nat) (x y : α) : fupd (fupd f i x) i y = fupd f i y := by
  funext j; unfold fupd; split <;> rfl

@[go_sem] theorem size_u32s (n : Nat) (f : Nat → BitVec 32) : (u32s n f).size = n := by simp [u32s]
@[go_sem] theorem size_u8s (n : Nat) (f : Nat → UInt8) : (u8s n f).size = n := by simp [u8s]
@[go_sem] theorem get_u32s (n : Nat) (f : Nat → BitVec 32) (i : Nat) (h : i < n) : (u32s n f)[i]? = some (.int .u32 ((f i).toNat : Int)) := by
  simp [u32s, h]
@[go_sem] theorem get_u8s (n : Nat) (f : Nat → UInt8) (i : Nat) (h : i < n) : (u8s n f)[i]? = some (.int .u8 ((f i).toNat : Int)) := by
  simp [u8s, h]
theorem set_u32s (n : Nat) (f : Nat → BitVec 32) (i : Nat) (x : BitVec 32) : (u32s n f).setIfInBounds i (.int .u32 (x.toNat : Int)) = u32s n (fupd f i x) := by
  apply Array.ext_getElem?
  intro j
  rw [Array.getElem?_setIfInBounds, size_u32s]
  by_cases hij : i = j
  · subst hij
    by_cases h : i < n
    · simp [h, get_u32s, fupd]
    · rw [if_pos rfl, if_neg h]; symm; apply Array.getElem?_eq_none; rw [size_u32s]; omega
  · rw [if_neg hij]
    by_cases h : j < n
    · rw [get_u32s n _ j h, get_u32s n _ j h]; (have hji : ¬ j = i := fun e => hij e.symm); simp [fupd, hji]
    · rw [Array.getElem?_eq_none (by rw [size_u32s]; omega), Array.getElem?_eq_none (by rw [size_u32s]; omega)]
theorem set_u8s (n : Nat) (f : Nat → UInt8) (i : Nat) (x : UInt8) : (u8s n f).setIfInBounds i (.int .u8 (x.toNat : Int)) = u8s n (fupd f i x) := by
  apply Array.ext_getElem?
  intro j
  rw [Array.getElem?_setIfInBounds, size_u8s]
  by_cases hij : i = j
  · subst hij
    by_cases h : i < n
    · simp [h, get_u8s, fupd]
    · rw [if_pos rfl, if_neg h]; symm; apply Array.getElem?_eq_none; rw [size_u8s]; omega
  · rw [if_neg hij]
    by_cases h : j < n
    · rw [get_u8s n _ j h, get_u8s n _ j h]; (have hji : ¬ j = i := fun e => hij e.symm); simp [fupd, hji]
    · rw [Array.getElem?_eq_none (by rw [size_u8s]; omega), Array.getElem?_eq_none (by rw [size_u8s]; omega)]
theorem u32s_congr (n : Nat) {f g : Nat → BitVec 32} (h : ∀ i, i < n → f i = g i) : u32s n f = u32s n g := by
  apply Array.ext_getElem?
  intro j
  by_cases hj : j < n
  · rw [get_u32s n _ j hj, get_u32s n _ j hj, h j hj]
  · rw [Array.getElem?_eq_none (by rw [size_u32s]; omega), Array.getElem?_eq_none (by rw [size_u32s]; omega)]

@[go_sem] theorem elem_u32s (n : Nat) (f : Nat → BitVec 32) (i : Nat) (h : i < (u32s n f).size) : (u32s n f)[i] = .int .u32 ((f i).toNat : Int) := by
  have h' := h
  rw [size_u32s] at h'
  have := get_u32s n f i h'
  rw [Array.getElem?_eq_getElem h] at this
  exact Option.some.inj this
@[go_sem] theorem elem_u8s (n : Nat) (f : Nat → UInt8) (i : Nat) (h : i < (u8s n f).size) : (u8s n f)[i] = .int .u8 ((f i).toNat : Int) := by
  have h' := h
  rw [size_u8s] at h'
  have := get_u8s n f i h'
  rw [Array.getElem?_eq_getElem h] at this
  exact Option.some.inj this
theorem one_u32s (n : Nat) (f : Nat → BitVec 32) : (u32s n f).all (·.oneCell') = true := by
  rw [Array.all_eq_true_iff_forall_mem]
  intro v hv
  simp [u32s, Array.mem_ofFn] at hv
  obtain ⟨i, rfl⟩ := hv
  rfl
theorem one_u8s (n : Nat) (f : Nat → UInt8) : (u8s n f).all (·.oneCell') = true := by
  rw [Array.all_eq_true_iff_forall_mem]
  intro v hv
  simp [u8s, Array.mem_ofFn] at hv
  obtain ⟨i, rfl⟩ := hv
  rfl

theorem below_setRow {B : Nat} {a w : World} (h : Below B a w) {g : Nat} (hB : B ≤ g) (cs : Array Value) : Below B a (w.setRow g cs) :=
  h.trans ⟨rfl, rfl, rfl, by simp, fun k hk => setRow_other w g k cs (by omega)⟩

theorem bel_trans {w w1 w2 : World} (h : Below w.heap.size w w1) (k : Below w1.heap.size w1 w2) : Below w.heap.size w w2 := h.trans (k.mono h.size)
theorem bel_drew {w w1 : World} (h : Below w.heap.size w w1) : Below w.heap.size w w1.drew := h.drew
theorem bel_undrew {w w1 : World} (h : Below w.drew.heap.size w.drew w1) : Below w.heap.size w w1 := ⟨h.os, h.tape, h.output, h.size, h.block⟩
theorem bel_alloc {w w1 : World} (h : Below w.heap.size w w1) (o : Obj) : Below w.heap.size w (w1.alloc o) := h.alloc h.size o

attribute [irreducible] u32s u8s

end Go.Proofs.YtaonjbkkgeiniaaGreatDoor

/- Walks over package crc: step, Table. -/
namespace Go.Proofs.YtaonjbkkgeiniaaGreatDoor
open Go.RowKit

set_option maxHeartbeats 400000 in
theorem step_any (c : BitVec 32) (w : World) :
    Calls Tryz.prog 137 #[.int .u32 c.toNat] w fun e w' => e = .returned (.int .u32 (step c).toNat) ∧ w = w' := by
  by_cases h : c.getLsbD 0 = true
  · have hb : (bits .and .u32 (c.toNat : Int) 1 == 1) = true := by rw [and1, h]; rfl
    go_enter Tryz.func137, Tryz.ntmps137
    go_wp2
    go_ret
    exact ⟨ret_int (by rw [xor_poly]; unfold step; rw [if_pos h]; rfl), rfl⟩
  · have h' : c.getLsbD 0 = false := by simpa using h
    have hb : (bits .and .u32 (c.toNat : Int) 1 == 1) = false := by rw [and1, h']; rfl
    go_enter Tryz.func137, Tryz.ntmps137
    go_wp2
    go_ret
    exact ⟨ret_int (by rw [shr1]; unfold step; rw [if_neg h]), rfl⟩

def zf (_ : Nat) : BitVec 32 := 0#32
def tk (k j : Nat) : BitVec 32 := if j < k then tab j else 0#32
theorem zero_tab (w : World) : (zeroValue 147).run Tryz.prog w = .ok (.agg (u32s 256 zf)) w := by kernel_rfl

theorem tab_size : (Tryz.prog.info? 147).map (·.size) = some 256 := by kernel_rfl
theorem tk_zero : tk 0 = zf := by funext j; simp [tk, zf]
theorem tk_succ (k : Nat) : fupd (tk k) k (tab k) = tk (k + 1) := by
  funext j; unfold fupd tk
  by_cases h : j = k
  · subst h; simp
  · rw [if_neg h]
    by_cases h2 : j < k
    · rw [if_pos h2, if_pos (by omega)]
    · rw [if_neg h2, if_neg (by omega)]
theorem start_row (k : Nat) (h : k < 256) : (u32s 256 (tk k)).setIfInBounds k (.int .u32 (k : Int)) = u32s 256 (fupd (tk k) k (up 0 (BitVec.ofNat 32 k))) := by
  rw [← set_u32s]
  congr 2
  show (k : Int) = ((BitVec.ofNat 32 k).toNat : Int)
  rw [BitVec.toNat_ofNat, Nat.mod_eq_of_lt (by omega)]
theorem up_succ (m : Nat) (c : BitVec 32) : up (m + 1) c = step (up m c) := by rw [up_add]; rfl

set_option maxRecDepth 100000 in
set_option maxHeartbeats 400000 in
theorem table_any (w : World) :
    Calls Tryz.prog 110 #[] w fun e w' => e = .returned (.agg (u32s 256 tab)) ∧ Below w.heap.size w w' := by
  have hz := zero_tab
  go_enter Tryz.func110, Tryz.ntmps110
  go_wp2_with fail
  clear hz
  go_loopw [3] (fun c wr => ∃ k : Nat, k ≤ 256 ∧ c = .int .i64 k ∧ wr = (w.alloc (.cells (u32s 256 zf) 147)).alloc (.cells (u32s 256 (tk k)) 147))
    (fun c _ => 256 - (intOf c).toNat)
  case atStart => exact ⟨0, by omega, rfl, by rw [tk_zero]⟩
  case round =>
    obtain ⟨k, hk, rfl, rfl⟩ := hrel
    by_cases hlt : k < 256
    · have hb : decide ((k : Int) < 256) = true := by simp; omega
      go_wp2_with fail
      rw [start_row k hlt]
      go_loopw [10] (fun c wr => ∃ m : Nat, m ≤ 8 ∧ c = .int .i64 m ∧ wr = (w.alloc (.cells (u32s 256 zf) 147)).alloc (.cells (u32s 256 (fupd (tk k) k (up m (BitVec.ofNat 32 k)))) 147))
        (fun c _ => 8 - (intOf c).toNat)
      case atStart => exact ⟨0, by omega, rfl, rfl⟩
      case round =>
        obtain ⟨m, hm, rfl, rfl⟩ := hrel
        have hf := fupd_same (tk k) k (up m (BitVec.ofNat 32 k))
        by_cases hm8 : m < 8
        · go_wp2_with (go_at_call 137; refine (step_any _ _).mono ?_; rintro e w' ⟨rfl, rfl⟩)
          go_roundw
          case rel => exact ⟨m + 1, by omega, by go_num, by rw [set_u32s, fupd_twice, up_succ]⟩
          case measure => simp [intOf]; omega
        · obtain rfl : m = 8 := by omega
          go_wp2_with fail
          go_roundw
          case rel => exact ⟨k + 1, by omega, by go_num, by rw [← tk_succ]; rfl⟩
          case measure => simp [intOf]; omega
    · obtain rfl : k = 256 := by omega
      have h1 : ((w.alloc (.cells (u32s 256 zf) 147)).alloc (.cells (u32s 256 (tk 256)) 147)).heap[w.heap.size + 1]? = some (.cells (u32s 256 (tk 256)) 147) := heap_alloc2_new _ _ _
      have h0 : ((w.alloc (.cells (u32s 256 zf) 147)).alloc (.cells (u32s 256 (tk 256)) 147)).heap[w.heap.size]? = some (.cells (u32s 256 zf) 147) := heap_alloc2_old _ _ _
      have H0 := Lib.hid h0
      have H1 := Lib.hid h1
      clear h0 h1
      go_wp2_with (first | (refine wpList_load_row rfl 147 _ rfl (w.heap.size + 1) rfl 147 _ (0, 0) _ H1.out Tryz.underlying147 rfl (by rw [size_u32s]; exact tab_size) ?_) | (refine wpList_store_row rfl 147 _ _ rfl w.heap.size _ rfl rfl 147 _ H0.out (by rw [size_u32s]; exact tab_size) (by rw [size_u32s, size_u32s]) (one_u32s _ _) ?_))
      refine bodyPost_ret_by (v := .agg (u32s 256 (tk 256))) (results_cell_row rfl _ _ w.heap.size 147 _ (0, 0) _ rfl (setRow_heap _ _ _ _ _ _ H0.out) Tryz.underlying147 rfl (by rw [size_u32s]; exact tab_size)) rfl ⟨?_, ?_⟩
      · rw [u32s_congr 256 (f := tk 256) (g := tab) (fun i hi => by unfold tk; rw [if_pos hi])]
      · exact below_setRow (((Below.refl _ _).alloc (Nat.le_refl _) _).alloc (by simp) _) (Nat.le_refl _) _

end Go.Proofs.YtaonjbkkgeiniaaGreatDoor

/- Walks over package crc: run over a string. -/
namespace Go.Proofs.YtaonjbkkgeiniaaGreatDoor
open Go.RowKit

def ix (c : BitVec 32) (b : UInt8) : Nat := (c.toNat % 256) ^^^ b.toNat
theorem ix_lt (c : BitVec 32) (b : UInt8) : ix c b < 256 := Nat.xor_lt_two_pow (n := 8) (by omega) (b8lt b)
@[go_sem] theorem g_ix (c : BitVec 32) (b : UInt8) : bits .xor .u8 ((c.toNat : Int) % 256) (b.toNat : Int) = ((ix c b : Nat) : Int) := by
  have e : ((c.toNat : Int) % 256) = ((c.toNat % 256 : Nat) : Int) := by omega
  rw [e, u8_xor_nat _ _ (by omega) (b8lt b)]; rfl

theorem shl_up (k : Nat) : ∀ x : BitVec 32, k ≤ 8 → x.toNat < 16777216 → up k (x <<< k) = x := by
  induction k with
  | zero => intro x _ _; show x <<< 0 = x; simp
  | succ k ih =>
    intro x hk hx
    have hx' : x.toNat * 2 ^ k < 2 ^ 31 := by
      have h1 : 2 ^ k ≤ 2 ^ 7 := Nat.pow_le_pow_right (by omega) (by omega)
      have h2 : x.toNat * 2 ^ k ≤ x.toNat * 2 ^ 7 := Nat.mul_le_mul_left _ h1
      omega
    have ex : x.toNat * 2 ^ (k + 1) = x.toNat * 2 ^ k * 2 := by rw [Nat.pow_succ, Nat.mul_assoc]
    have e : step (x <<< (k + 1)) = x <<< k := by
      unfold step
      have h0 : (x <<< (k + 1)).getLsbD 0 = false := by rw [BitVec.getLsbD_shiftLeft]; simp
      rw [h0]
      simp only [Bool.false_eq_true, if_false]
      apply BitVec.eq_of_toNat_eq
      rw [BitVec.toNat_ushiftRight, BitVec.toNat_shiftLeft, BitVec.toNat_shiftLeft, Nat.shiftLeft_eq, Nat.shiftLeft_eq, Nat.shiftRight_eq_div_pow, ex, Nat.mod_eq_of_lt (by omega), Nat.mod_eq_of_lt (by omega)]
      omega
    show up k (step (x <<< (k + 1))) = x
    rw [e, ih x (by omega) hx]

theorem split8 (c : BitVec 32) : c = BitVec.ofNat 32 (c.toNat % 256) ^^^ (c >>> 8) <<< 8 := by
  apply BitVec.eq_of_getLsbD_eq
  intro i hi
  rw [BitVec.getLsbD_xor, BitVec.getLsbD_shiftLeft, BitVec.getLsbD_ushiftRight, BitVec.getLsbD_ofNat, show (256 : Nat) = 2 ^ 8 from rfl, Nat.testBit_mod_two_pow]
  by_cases h : i < 8
  · simp [h, hi, BitVec.testBit_toNat]
  · simp [h, hi, show 8 + (i - 8) = i by omega]
theorem ext_lt (b : UInt8) : (ext b).toNat = b.toNat := by
  unfold ext; rw [BitVec.toNat_ofNat]; have := b8lt b; omega
theorem ix_ext (c : BitVec 32) (b : UInt8) : BitVec.ofNat 32 (ix c b) = BitVec.ofNat 32 (c.toNat % 256) ^^^ ext b := by
  apply BitVec.eq_of_toNat_eq
  have h1 := ix_lt c b
  rw [BitVec.toNat_xor, BitVec.toNat_ofNat, BitVec.toNat_ofNat, ext_lt, Nat.mod_eq_of_lt (a := ix c b) (by omega), Nat.mod_eq_of_lt (a := c.toNat % 256) (by omega)]
  rfl
theorem tab_upd (c : BitVec 32) (b : UInt8) : tab (ix c b) ^^^ c >>> 8 = upd c b := by
  have h := split8 c
  have h8 : (c >>> 8).toNat < 16777216 := by rw [BitVec.toNat_ushiftRight, Nat.shiftRight_eq_div_pow]; have := b32lt c; omega
  have h3 := shl_up 8 (c >>> 8) (by omega) h8
  unfold tab upd
  rw [ix_ext, up_xor, up_xor]
  have h4 : up 8 c = up 8 (BitVec.ofNat 32 (c.toNat % 256)) ^^^ c >>> 8 := by
    have := congrArg (up 8) h
    rw [up_xor, h3] at this
    exact this
  rw [h4]
  ac_rfl

theorem take_snoc (s : ByteArray) (k : Nat) (h : k < s.size) : s.data.toList.take (k + 1) = s.data.toList.take k ++ [s[k]] := by
  rw [List.take_succ_eq_append_getElem (by simpa using h)]; rfl
theorem run_snoc (c : BitVec 32) (s : ByteArray) (k : Nat) (h : k < s.size) : run c (s.data.toList.take (k + 1)) = upd (run c (s.data.toList.take k)) s[k] := by
  rw [take_snoc s k h, run_append]; rfl

set_option maxRecDepth 100000 in
set_option maxHeartbeats 400000 in
theorem run_str (c : BitVec 32) (s : ByteArray) (w : World) (hs : s.size ≤ maxLen) :
    Calls Tryz.prog 109 #[.agg (u32s 256 tab), .int .u32 c.toNat, .string s] w
      fun e w' => e = .returned (.int .u32 (run c s.data.toList).toNat) ∧ Below w.heap.size w w' := by
  unfold maxLen at hs
  go_enter Tryz.func109, Tryz.ntmps109
  go_wp2_with fail
  go_loop [1, 10] (fun x i => ∃ k : Nat, k ≤ s.size ∧ i = .int .i64 k ∧ x = .int .u32 (run c (s.data.toList.take k)).toNat) (fun _ i => s.size - (intOf i).toNat)
  case atStart => exact ⟨0, Nat.zero_le _, rfl, rfl⟩
  case round =>
    obtain ⟨k, hk, rfl, rfl⟩ := hrel
    by_cases hlt : k < s.size
    · have hix := ix_lt (run c (s.data.toList.take k)) s[k]
      have hsn := run_snoc c s k hlt
      rw [← tab_upd] at hsn
      have HS := Lib.hid hsn
      clear hsn
      go_wp2_with fail
      go_round
      case rel => exact ⟨k + 1, by omega, by go_num, by rw [HS.out, ← g_xor, ← shr8]⟩
      case measure => simp [intOf]; omega
    · go_wp2_with fail
      go_ret
      exact ⟨ret_int (by rw [List.take_of_length_le (by simp; omega)]), (Below.refl _ _).alloc (Nat.le_refl _) _⟩

end Go.Proofs.YtaonjbkkgeiniaaGreatDoor

/- Walks over package crc: Add, Of. -/
namespace Go.Proofs.YtaonjbkkgeiniaaGreatDoor
open Go.RowKit

@[go_sem] theorem g_not (c : BitVec 32) : bits .xor .u32 IntKind.u32.max (c.toNat : Int) = ((nt c).toNat : Int) := by
  have h := u32_xor_nat 4294967295 c.toNat (by omega) (b32lt c)
  show bits .xor .u32 4294967295 (c.toNat : Int) = _
  rw [show (4294967295 : Int) = ((4294967295 : Nat) : Int) from rfl, h]
  have e : nt c = BitVec.allOnes 32 ^^^ c := by
    unfold nt
    apply BitVec.eq_of_getLsbD_eq
    intro i hi
    rw [BitVec.getLsbD_xor, BitVec.getLsbD_allOnes, BitVec.getLsbD_not]; simp [hi]
  rw [e, BitVec.toNat_xor]; rfl

set_option maxHeartbeats 400000 in
theorem add_str (c : BitVec 32) (s : ByteArray) (w : World) (hs : s.size ≤ 1000000000) :
    Calls Tryz.prog 91 #[.int .u32 c.toNat, .string s] w
      fun e w' => e = .returned (.int .u32 (add c s.data.toList).toNat) ∧ Below w.heap.size w w' := by
  have hs' : s.size ≤ maxLen := by unfold maxLen; omega
  go_enter Tryz.func91, Tryz.ntmps91
  go_wp2_with fail
  refine (table_any _).mono ?_
  rintro e w1 ⟨rfl, hb1⟩
  go_wp2_with fail
  with_reducible refine (run_str _ _ _ hs').mono ?_
  rintro e w2 ⟨rfl, hb2⟩
  go_wp2_with fail
  go_ret
  exact ⟨rfl, hb1.trans (hb2.mono hb1.size)⟩

set_option maxHeartbeats 400000 in
theorem of_str (s : ByteArray) (w : World) (hs : s.size ≤ 1000000000) :
    Calls Tryz.prog 65 #[.string s] w
      fun e w' => e = .returned (.int .u32 (crc s.data.toList).toNat) ∧ Below w.heap.size w w' := by
  go_enter Tryz.func65, Tryz.ntmps65
  go_wp2_with fail
  refine (add_str 0#32 _ _ hs).mono ?_
  rintro e w1 ⟨rfl, hb1⟩
  go_wp2_with fail
  go_ret
  exact ⟨rfl, hb1⟩

end Go.Proofs.YtaonjbkkgeiniaaGreatDoor

/- A number's four bytes; bytes as cells, and read back as a string. -/
namespace Go.Proofs.YtaonjbkkgeiniaaGreatDoor
open Go.RowKit

/-- a number's i-th byte -/
def byt (c : BitVec 32) (i : Nat) : UInt8 := UInt8.ofNat (c.toNat / 256 ^ i)
def four (c : BitVec 32) : List UInt8 := [byt c 0, byt c 1, byt c 2, byt c 3]
@[go_sem] theorem length_four (c : BitVec 32) : (four c).length = 4 := rfl
/-- bytes as cells -/
def bts (l : List UInt8) : Array Value := (l.map fun b => Value.int .u8 (b.toNat : Int)).toArray
theorem byt_val (c : BitVec 32) (i : Nat) : ((byt c i).toNat : Int) = (c.toNat / 256 ^ i % 256 : Nat) := by
  unfold byt; rw [UInt8.toNat_ofNat']
theorem bts_four (c : BitVec 32) : bts (four c) = #[.int .u8 ((c.toNat : Int) % 256), .int .u8 ((c.toNat : Int) / 256 % 256), .int .u8 ((c.toNat : Int) / 65536 % 256), .int .u8 ((c.toNat : Int) / 16777216)] := by
  have h := b32lt c
  unfold bts four
  simp only [List.map, byt_val]
  rw [show (c.toNat / 256 ^ 0 % 256 : Nat) = c.toNat % 256 from by rw [Nat.pow_zero, Nat.div_one], show (256 ^ 1 : Nat) = 256 from rfl, show (256 ^ 2 : Nat) = 65536 from rfl, show (256 ^ 3 : Nat) = 16777216 from rfl,
    Nat.mod_eq_of_lt (a := c.toNat / 16777216) (by omega)]
  rfl

theorem get_bts (l : List UInt8) (j : Nat) (h : j < l.length) : (bts l)[j]? = some (.int .u8 (l[j].toNat : Int)) := by
  simp [bts, h]
theorem conv_bts (l : List UInt8) (n cap : Nat) (hn : l.length = n) (w : World) :
    (convert 32 9 (.slice (some ⟨w.heap.size, 0, none⟩) n cap)).run Tryz.prog (w.alloc (.cells (bts l) 5)) = .ok (.string ⟨l.toArray⟩) (w.alloc (.cells (bts l) 5)) := by
  subst hn
  refine run_convert_bytes_back _ _ _ 5 _ _ l Tryz.underlying32 Tryz.underlying5 Tryz.underlying9 ?_
  intro j hj
  have : (⟨w.heap.size, 0, none⟩ : Addr).add j = ⟨w.heap.size, j, none⟩ := by unfold Addr.add; split <;> simp_all
  rw [this, World.cell?_alloc_new, get_bts l j hj]

/-- bytes as a string -/
def bs (l : List UInt8) : ByteArray := ⟨l.toArray⟩
def sealL (l : List UInt8) : List UInt8 := l ++ four (crc l)

end Go.Proofs.YtaonjbkkgeiniaaGreatDoor

/- Strings and their bytes. -/
namespace Go.Proofs.YtaonjbkkgeiniaaGreatDoor

theorem bs_data (l : List UInt8) : (bs l).data.toList = l := by unfold bs; simp
theorem size_bs (l : List UInt8) : (bs l).size = l.length := by unfold bs; simp [ByteArray.size]
theorem bs_of (s : ByteArray) : bs s.data.toList = s := by unfold bs; simp
theorem ba_ext {s t : ByteArray} (h : s.data.toList = t.data.toList) : s = t := by rw [← bs_of s, h, bs_of]
theorem data_app (s t : ByteArray) : (s ++ t).data.toList = s.data.toList ++ t.data.toList := by simp
theorem len_data (s : ByteArray) : s.data.toList.length = s.size := rfl
theorem toList_bs (l : List UInt8) : (bs l).toList = l := by rw [ByteArray.toList_eq, bs_data]
theorem bs_app (l m : List UInt8) : bs l ++ bs m = bs (l ++ m) := ba_ext (by rw [data_app, bs_data, bs_data, bs_data])
theorem bs_eq {l m : List UInt8} : bs l = bs m ↔ l = m := ⟨fun h => by rw [← bs_data l, h, bs_data], fun h => by rw [h]⟩
theorem empty_iff (s : ByteArray) : s.toList.isEmpty = decide (s.size = 0) := by
  rw [ByteArray.toList_eq, ← len_data]
  cases s.data.toList <;> simp

end Go.Proofs.YtaonjbkkgeiniaaGreatDoor

/- Walks over package wire: the Writer. -/
namespace Go.Proofs.YtaonjbkkgeiniaaGreatDoor
open Go.RowKit

/-- bytes as a list of cells -/
def cl (l : List UInt8) : List Value := l.map fun b => Value.int .u8 (b.toNat : Int)
theorem cl_append (l m : List UInt8) : cl (l ++ m) = cl l ++ cl m := by unfold cl; simp
theorem cl_length (l : List UInt8) : (cl l).length = l.length := by unfold cl; simp
theorem cl_one (l : List UInt8) : ∀ u ∈ cl l, u.oneCell' = true := by
  intro u hu
  unfold cl at hu
  obtain ⟨b, _, rfl⟩ := List.mem_map.1 hu
  rfl
/-- block b is a Writer of the bytes l, its row lies behind b -/
def wrt (w : World) (b : Nat) (l : List UInt8) (oa : Option Addr) (cap : Nat) : Prop :=
  w.heap[b]? = some (.cells #[.slice oa l.length cap] 99) ∧ w.ownsRow (b + 1) 5 1 (.slice oa l.length cap) l.length (cl l)
def Wrt (w : World) (b : Nat) (l : List UInt8) : Prop := ∃ oa cap, wrt w b l oa cap
theorem wrt.lt {w : World} {b : Nat} {l : List UInt8} {oa : Option Addr} {cap : Nat} (h : wrt w b l oa cap) : b < w.heap.size := (Array.getElem?_eq_some_iff.1 h.1).1
theorem wrt.cell {w : World} {b : Nat} {l : List UInt8} {oa : Option Addr} {cap : Nat} (h : wrt w b l oa cap) : w.cell? ⟨b, 0, none⟩ = some (.slice oa l.length cap) := by
  rw [cell_of_row _ _ _ _ _ _ h.1]; rfl

theorem infoU8 : (Tryz.prog.info? 5).map (fun i => (i.zero, i.size, i.bytes)) = some (some (.int .u8 0), 1, 1) := by kernel_rfl

/-- behind an append to the row and the store of what it gave -/
theorem wrt.grown {w w1 : World} {b : Nat} {l m : List UInt8} {oa : Option Addr} {cap : Nat} (h : wrt w b l oa cap) (o : Obj) {v : Value} (hown : w1.ownsRow (b + 1) 5 1 v (l.length + m.length) (cl l ++ cl m))
    (hg : (w.alloc o).grownBy w1 (Value.ownBlock (.slice oa l.length cap))) :
    ∃ oa' cap', v = .slice oa' (l.length + m.length) cap' ∧ w1.cell? ⟨b, 0, none⟩ = some (.slice oa l.length cap) ∧ w1.frozen? ⟨b, 0, none⟩ = false ∧
      wrt (w1.setCell ⟨b, 0, none⟩ (.slice oa' (l.length + m.length) cap')) b (l ++ m) oa' cap' ∧ Below b w (w1.setCell ⟨b, 0, none⟩ (.slice oa' (l.length + m.length) cap')) := by
  have hlt := h.lt
  have hne : some b ≠ Value.ownBlock (.slice oa l.length cap) := by
    intro e
    have := h.2.lt b e.symm
    omega
  have hb1 : w1.heap[b]? = some (.cells #[.slice oa l.length cap] 99) := by
    rw [hg.block b (by simp; omega) hne, Below.heap_alloc _ _ _ hlt]; exact h.1
  have hv : ∃ oa' cap', v = .slice oa' (l.length + m.length) cap' := by
    rcases hown.2 with ⟨rfl, h0⟩ | ⟨g, c, cur, rfl, _⟩
    · exact ⟨none, 0, by rw [h0]⟩
    · exact ⟨_, _, rfl⟩
  obtain ⟨oa', cap', rfl⟩ := hv
  refine ⟨oa', cap', rfl, by rw [cell_of_row _ _ _ _ _ _ hb1]; rfl, frozen_of_row _ _ _ _ _ hb1, ⟨?_, ?_⟩, ?_⟩
  · rw [heap_setCell_same _ _ _ _ _ _ hb1, List.length_append]; rfl
  · have := ownsRow_setCell_below hown (a := ⟨b, 0, none⟩) (by show b < b + 1; omega) (.slice oa' (l.length + m.length) cap')
    rw [List.length_append, cl_append]
    exact this
  · have h1 : Below b w (w.alloc o) := (Below.refl _ _).alloc (Nat.le_of_lt hlt) _
    have h2 : Below b w w1 := h1.grown hg (by simp; omega) (fun k e => by have := (h.2.lt k e).1; omega)
    exact h2.setCell (Nat.le_refl _) _

/-- a number's bytes, the highest first -/
def byt64 (n i : Nat) : UInt8 := UInt8.ofNat (n / 256 ^ i)
theorem byt64_val (n i : Nat) : ((byt64 n i).toNat : Int) = ((n : Int) / (256 ^ i : Nat)) % 256 := by
  unfold byt64; rw [UInt8.toNat_ofNat']; simp
def be4 (n : Nat) : List UInt8 := [byt64 n 3, byt64 n 2, byt64 n 1, byt64 n 0]
def be8 (n : Nat) : List UInt8 := [byt64 n 7, byt64 n 6, byt64 n 5, byt64 n 4, byt64 n 3, byt64 n 2, byt64 n 1, byt64 n 0]

/-- THE ARM: the new bytes lie in the block that was made last -/
theorem wapp {ops : Array Oper} {rest : List Oper} {o : Oper} {a : Act} {Q : Exit → Act → World → Prop} (w : World) {b : Nat} {l : List UInt8} {oa : Option Addr} {cap : Nat} (h : wrt w b l oa cap) (hgd : o.guard = none) (s x : Operand)
    (ho : o.op = .call { callee := .builtin .append, args := #[s, x], argTypes := #[32, 32] }) (hs : a.eval s = .slice oa l.length cap) (k : Nat) (hx : a.eval x = .slice (some ⟨w.heap.size, 0, none⟩) k k)
    (m : List UInt8) (vals : List Value) (hm : m.length = k) (hv : vals = cl m) (hl : l.length + k ≤ 1000000000)
    (hK : ∀ oa' cap' w1, w1.cell? ⟨b, 0, none⟩ = some (.slice oa l.length cap) → w1.frozen? ⟨b, 0, none⟩ = false → wrt (w1.setCell ⟨b, 0, none⟩ (.slice oa' (l ++ m).length cap')) b (l ++ m) oa' cap' →
      Below b w (w1.setCell ⟨b, 0, none⟩ (.slice oa' (l ++ m).length cap')) → wpList Tryz.prog ops Q rest (a.put o.dst (.slice oa' (l ++ m).length cap')) w1) :
    wpList Tryz.prog ops Q (o :: rest) a (w.alloc (.cells vals.toArray 5)) := by
  obtain ⟨i0, hi, hz0, hz1, hz2⟩ := info_parts infoU8
  subst hm; subst hv
  refine wpList_append_own _ hgd s x 32 ho (b + 1) 5 i0 (.int .u8 0) 1 1 Tryz.underlying32 hi hz0 hz1 hz2 rfl (by decide) _ _ _ hs (h.2.alloc _) ⟨w.heap.size, 0, none⟩ m.length m.length (cl m) hx
    (by rw [cl_length]; omega) ?_ (cl_one m) (by unfold maxLen; omega) (by omega) (by have := h.lt; simp; omega) ?_
  · intro j u hj
    have : (⟨w.heap.size, 0, none⟩ : Addr).add j = ⟨w.heap.size, j, none⟩ := by unfold Addr.add; split <;> simp_all
    rw [this, World.cell?_alloc_new]
    simpa using hj
  · intro v' w1 hown hg _
    obtain ⟨oa', cap', rfl, hc, hf, hw, hb⟩ := h.grown _ hown hg
    have hK' := hK oa' cap' w1 hc hf
    rw [List.length_append] at hK'
    exact hK' hw hb

theorem b8v (n i : Nat) (p : Int) (hp : p = ((256 ^ i : Nat) : Int)) : Value.int .u8 ((n : Int) / p % 256) = .int .u8 ((byt64 n i).toNat : Int) := by
  subst hp; rw [byt64_val]
theorem b8t (n i : Nat) (p : Int) (hp : p = ((256 ^ i : Nat) : Int)) (h : n / 256 ^ i < 256) : Value.int .u8 ((n : Int) / p) = .int .u8 ((byt64 n i).toNat : Int) := by
  subst hp
  rw [byt64_val]
  have : ((n : Int) / ((256 ^ i : Nat) : Int)) = ((n / 256 ^ i : Nat) : Int) := by simp
  rw [this]
  generalize n / 256 ^ i = q at *
  congr 1
  omega
theorem b8z (n : Nat) : Value.int .u8 ((n : Int) % 256) = .int .u8 ((byt64 n 0).toNat : Int) := by
  rw [byt64_val]; simp

set_option maxHeartbeats 2000000 in
theorem wfixed4 (b : Nat) (l : List UInt8) (oa : Option Addr) (cap : Nat) (n : Nat) (w : World) (hn : n < 4294967296) (hl : l.length ≤ 1000000) (h : wrt w b l oa cap) :
    Calls Tryz.prog 89 #[.pointer (some ⟨b, 0, none⟩), .int .u64 n, .int .i64 4] w
      fun e w' => e = .returned (.tuple #[]) ∧ Wrt w' b (l ++ be4 n) ∧ Below b w w' := by
  have hc := h.cell
  have H := Lib.hid h
  have HL := Lib.hid hl
  have E0 := Lib.hid (show [Value.int .u8 ((n : Int) / 16777216), .int .u8 ((n : Int) / 65536 % 256)] = cl [byt64 n 3, byt64 n 2] by rw [b8t n 3 _ (by decide) (by omega), b8v n 2 _ (by decide)]; rfl)
  have E1 := Lib.hid (show [Value.int .u8 ((n : Int) / 256 % 256)] = cl [byt64 n 1] by rw [b8v n 1 _ (by decide)]; rfl)
  have E2 := Lib.hid (show [Value.int .u8 ((n : Int) % 256)] = cl [byt64 n 0] by rw [b8z n]; rfl)
  clear h hl
  go_enter Tryz.func89, Tryz.ntmps89
  go_upto_region 7 with (at_builtin; refine wapp w H.out rfl _ _ rfl rfl 2 rfl [byt64 n 3, byt64 n 2] _ rfl E0.out (by have := HL.out; omega) ?_; intro oa1 cap1 w1 hc1 hf1 hw1 hb1)
  clear hc1 hf1 hc
  have hll1 : (l ++ [byt64 n 3, byt64 n 2]).length = l.length + 2 := by simp
  rw [← hll1]
  obtain ⟨l1, el1⟩ : ∃ x, l ++ [byt64 n 3, byt64 n 2] = x := ⟨_, rfl⟩
  rw [el1] at hw1 hb1 hll1 ⊢
  generalize w1.setCell ⟨b, 0, none⟩ (.slice oa1 l1.length cap1) = v1 at *
  have hcc1 := hw1.cell
  have H1 := Lib.hid hw1
  have HE1 := Lib.hid el1
  have HL1 := Lib.hid (show l1.length ≤ 1000000 + 2 by have := HL.out; omega)
  clear hw1 el1 hll1
  go_upto_region 8 with (at_builtin; refine wapp v1 H1.out rfl _ _ rfl rfl 1 rfl [byt64 n 1] _ rfl E1.out (by have := HL1.out; omega) ?_; intro oa2 cap2 w2 hc2 hf2 hw2 hb2)
  clear hc2 hf2 hcc1
  have hll2 : (l1 ++ [byt64 n 1]).length = l1.length + 1 := by simp
  rw [← hll2]
  obtain ⟨l2, el2⟩ : ∃ x, l1 ++ [byt64 n 1] = x := ⟨_, rfl⟩
  rw [el2] at hw2 hb2 hll2 ⊢
  generalize w2.setCell ⟨b, 0, none⟩ (.slice oa2 l2.length cap2) = v2 at *
  have hcc2 := hw2.cell
  have H2 := Lib.hid hw2
  have HE2 := Lib.hid el2
  have HL2 := Lib.hid (show l2.length ≤ 1000000 + 3 by have := HL1.out; omega)
  clear hw2 el2 hll2
  go_wp2_with (at_builtin; refine wapp v2 H2.out rfl _ _ rfl rfl 1 rfl [byt64 n 0] _ rfl E2.out (by have := HL2.out; omega) ?_; intro oa3 cap3 w3 hc3 hf3 hw3 hb3)
  go_end0
  have hll3 : (l2 ++ [byt64 n 0]).length = l2.length + 1 := by simp
  rw [← hll3]
  refine ⟨rfl, ⟨oa3, cap3, ?_⟩, ((hb1).trans hb2).trans hb3⟩
  have e : l ++ be4 n = l2 ++ [byt64 n 0] := by rw [← HE2.out, ← HE1.out, show be4 n = [byt64 n 3, byt64 n 2] ++ [byt64 n 1] ++ [byt64 n 0] from rfl]; simp
  rw [e]
  exact hw3

set_option maxHeartbeats 2000000 in
theorem wfixed8 (b : Nat) (l : List UInt8) (oa : Option Addr) (cap : Nat) (n : Nat) (w : World) (hn : n < 18446744073709551616) (hl : l.length ≤ 1000000) (h : wrt w b l oa cap) :
    Calls Tryz.prog 89 #[.pointer (some ⟨b, 0, none⟩), .int .u64 n, .int .i64 8] w
      fun e w' => e = .returned (.tuple #[]) ∧ Wrt w' b (l ++ be8 n) ∧ Below b w w' := by
  have hc := h.cell
  have H := Lib.hid h
  have HL := Lib.hid hl
  have E0 := Lib.hid (show [Value.int .u8 ((n : Int) / 72057594037927936), .int .u8 ((n : Int) / 281474976710656 % 256), .int .u8 ((n : Int) / 1099511627776 % 256), .int .u8 ((n : Int) / 4294967296 % 256)] = cl [byt64 n 7, byt64 n 6, byt64 n 5, byt64 n 4] by rw [b8t n 7 _ (by decide) (by omega), b8v n 6 _ (by decide), b8v n 5 _ (by decide), b8v n 4 _ (by decide)]; rfl)
  have E1 := Lib.hid (show [Value.int .u8 ((n : Int) / 16777216 % 256), .int .u8 ((n : Int) / 65536 % 256)] = cl [byt64 n 3, byt64 n 2] by rw [b8v n 3 _ (by decide), b8v n 2 _ (by decide)]; rfl)
  have E2 := Lib.hid (show [Value.int .u8 ((n : Int) / 256 % 256)] = cl [byt64 n 1] by rw [b8v n 1 _ (by decide)]; rfl)
  have E3 := Lib.hid (show [Value.int .u8 ((n : Int) % 256)] = cl [byt64 n 0] by rw [b8z n]; rfl)
  clear h hl
  go_enter Tryz.func89, Tryz.ntmps89
  go_upto_region 6 with (at_builtin; refine wapp w H.out rfl _ _ rfl rfl 4 rfl [byt64 n 7, byt64 n 6, byt64 n 5, byt64 n 4] _ rfl E0.out (by have := HL.out; omega) ?_; intro oa1 cap1 w1 hc1 hf1 hw1 hb1)
  clear hc1 hf1 hc
  have hll1 : (l ++ [byt64 n 7, byt64 n 6, byt64 n 5, byt64 n 4]).length = l.length + 4 := by simp
  rw [← hll1]
  obtain ⟨l1, el1⟩ : ∃ x, l ++ [byt64 n 7, byt64 n 6, byt64 n 5, byt64 n 4] = x := ⟨_, rfl⟩
  rw [el1] at hw1 hb1 hll1 ⊢
  generalize w1.setCell ⟨b, 0, none⟩ (.slice oa1 l1.length cap1) = v1 at *
  have hcc1 := hw1.cell
  have H1 := Lib.hid hw1
  have HE1 := Lib.hid el1
  have HL1 := Lib.hid (show l1.length ≤ 1000000 + 4 by have := HL.out; omega)
  clear hw1 el1 hll1
  go_upto_region 7 with (at_builtin; refine wapp v1 H1.out rfl _ _ rfl rfl 2 rfl [byt64 n 3, byt64 n 2] _ rfl E1.out (by have := HL1.out; omega) ?_; intro oa2 cap2 w2 hc2 hf2 hw2 hb2)
  clear hc2 hf2 hcc1
  have hll2 : (l1 ++ [byt64 n 3, byt64 n 2]).length = l1.length + 2 := by simp
  rw [← hll2]
  obtain ⟨l2, el2⟩ : ∃ x, l1 ++ [byt64 n 3, byt64 n 2] = x := ⟨_, rfl⟩
  rw [el2] at hw2 hb2 hll2 ⊢
  generalize w2.setCell ⟨b, 0, none⟩ (.slice oa2 l2.length cap2) = v2 at *
  have hcc2 := hw2.cell
  have H2 := Lib.hid hw2
  have HE2 := Lib.hid el2
  have HL2 := Lib.hid (show l2.length ≤ 1000000 + 6 by have := HL1.out; omega)
  clear hw2 el2 hll2
  go_upto_region 8 with (at_builtin; refine wapp v2 H2.out rfl _ _ rfl rfl 1 rfl [byt64 n 1] _ rfl E2.out (by have := HL2.out; omega) ?_; intro oa3 cap3 w3 hc3 hf3 hw3 hb3)
  clear hc3 hf3 hcc2
  have hll3 : (l2 ++ [byt64 n 1]).length = l2.length + 1 := by simp
  rw [← hll3]
  obtain ⟨l3, el3⟩ : ∃ x, l2 ++ [byt64 n 1] = x := ⟨_, rfl⟩
  rw [el3] at hw3 hb3 hll3 ⊢
  generalize w3.setCell ⟨b, 0, none⟩ (.slice oa3 l3.length cap3) = v3 at *
  have hcc3 := hw3.cell
  have H3 := Lib.hid hw3
  have HE3 := Lib.hid el3
  have HL3 := Lib.hid (show l3.length ≤ 1000000 + 7 by have := HL2.out; omega)
  clear hw3 el3 hll3
  go_wp2_with (at_builtin; refine wapp v3 H3.out rfl _ _ rfl rfl 1 rfl [byt64 n 0] _ rfl E3.out (by have := HL3.out; omega) ?_; intro oa4 cap4 w4 hc4 hf4 hw4 hb4)
  go_end0
  have hll4 : (l3 ++ [byt64 n 0]).length = l3.length + 1 := by simp
  rw [← hll4]
  refine ⟨rfl, ⟨oa4, cap4, ?_⟩, (((hb1).trans hb2).trans hb3).trans hb4⟩
  have e : l ++ be8 n = l3 ++ [byt64 n 0] := by rw [← HE3.out, ← HE2.out, ← HE1.out, show be8 n = [byt64 n 7, byt64 n 6, byt64 n 5, byt64 n 4] ++ [byt64 n 3, byt64 n 2] ++ [byt64 n 1] ++ [byt64 n 0] from rfl]; simp
  rw [e]
  exact hw4

end Go.Proofs.YtaonjbkkgeiniaaGreatDoor

/- math/bits.ReverseBytes32. -/
namespace Go.Proofs.YtaonjbkkgeiniaaGreatDoor
open Go.RowKit

def rev (c : BitVec 32) : BitVec 32 := c.extractLsb' 0 8 ++ c.extractLsb' 8 8 ++ c.extractLsb' 16 8 ++ c.extractLsb' 24 8
theorem app8 {n : Nat} (x : BitVec n) (y : BitVec 8) : (x ++ y).toNat = x.toNat * 256 + y.toNat := by
  rw [BitVec.toNat_append, ← Nat.shiftLeft_add_eq_or_of_lt y.isLt, Nat.shiftLeft_eq]
theorem rev_nat (c : BitVec 32) : (rev c).toNat = c.toNat % 256 * 16777216 + c.toNat / 256 % 256 * 65536 + c.toNat / 65536 % 256 * 256 + c.toNat / 16777216 := by
  have h := b32lt c
  unfold rev
  rw [app8, app8, app8]
  simp only [BitVec.extractLsb'_toNat, Nat.shiftRight_eq_div_pow, Nat.reducePow]
  omega
def rv1 (c : BitVec 32) : BitVec 32 := (c >>> 8 &&& 16711935#32) ||| ((c &&& 16711935#32) <<< 8)
theorem shl_val (x : BitVec 32) (k : Nat) : ((x.toNat : Int) * ((2 ^ k : Nat) : Int) % 4294967296) = ((x <<< k).toNat : Int) := by
  rw [BitVec.toNat_shiftLeft, Nat.shiftLeft_eq]; simp
theorem rv1_val (c : BitVec 32) : bits .or .u32 (bits .and .u32 ((c.toNat : Int) / 256) 16711935) (bits .and .u32 (c.toNat : Int) 16711935 * 256 % 4294967296) = ((rv1 c).toNat : Int) := by
  rw [shr8, show (16711935 : Int) = ((16711935 : Nat) : Int) from rfl, g_and_n _ _ (by decide), g_and_n _ _ (by decide)]
  have := shl_val (c &&& BitVec.ofNat 32 16711935) 8
  rw [show (((2 ^ 8 : Nat)) : Int) = 256 from rfl] at this
  rw [this, g_or]; rfl
theorem bit_cases {i : Nat} (h : i < 32) (p : Nat → Prop) (h0 : ∀ j : Fin 32, p j.val) : p i := h0 ⟨i, h⟩
theorem rv2_val (c : BitVec 32) : bits .or .u32 ((c.toNat : Int) / 65536) ((c.toNat : Int) * 65536 % 4294967296) = ((c >>> 16 ||| c <<< 16).toNat : Int) := by
  have h1 := g_shr c 16
  have h2 := shl_val c 16
  rw [show (((2 ^ 16 : Nat)) : Int) = 65536 from rfl] at h1 h2
  rw [h1, h2, g_or]
theorem mask_bit (i : Nat) (h : i < 32) : (16711935#32).getLsbD i = (decide (i < 8) || (decide (16 ≤ i) && decide (i < 24))) := by
  have : ∀ j : Fin 32, (16711935#32).getLsbD j.val = (decide (j.val < 8) || (decide (16 ≤ j.val) && decide (j.val < 24))) := by decide
  exact this ⟨i, h⟩
theorem rv_rev (c : BitVec 32) : (rv1 c >>> 16 ||| rv1 c <<< 16) = rev c := by
  apply BitVec.eq_of_getLsbD_eq
  intro i hi
  unfold rv1 rev
  simp only [BitVec.getLsbD_or, BitVec.getLsbD_ushiftRight, BitVec.getLsbD_shiftLeft, BitVec.getLsbD_and, BitVec.getLsbD_append, BitVec.getLsbD_extractLsb']
  rcases (by omega : i < 8 ∨ (8 ≤ i ∧ i < 16) ∨ (16 ≤ i ∧ i < 24) ∨ (24 ≤ i ∧ i < 32)) with h | h | h | h
  · rw [mask_bit (16 + i) (by omega), mask_bit (16 + i - 8) (by omega)]
    have e1 : 8 + (16 + i) = 24 + i := by omega
    have t1 : ¬ (16 + i < 8) := by omega
    have t2 : 16 + i < 24 := by omega
    have t3 : ¬ (16 ≤ 16 + i - 8) := by omega
    have t4 : ¬ (16 + i - 8 < 8) := by omega
    have t5 : i < 16 := by omega
    simp [e1, t1, t2, t3, t4, t5, h]
  · rw [mask_bit (16 + i) (by omega), mask_bit (16 + i - 8) (by omega)]
    have e1 : 16 + i - 8 = 16 + (i - 8) := by omega
    have t1 : ¬ (16 + i < 8) := by omega
    have t2 : ¬ (16 + i < 24) := by omega
    have t3 : 16 ≤ 16 + i - 8 := by omega
    have t4 : 16 + i - 8 < 24 := by omega
    have t5 : i < 16 := by omega
    have t6 : ¬ i < 8 := by omega
    have t7 : i - 8 < 8 := by omega
    have t8 : 16 + (i - 8) < 32 := by omega
    have t9 : 16 + i < 32 := by omega
    simp [e1, t1, t2, t5, t6, t7, t8, t9]
    omega
  · rw [mask_bit (i - 16) (by omega), mask_bit (i - 16 - 8) (by omega)]
    have e1 : i - 8 - 8 = i - 16 := by omega
    have e2 : 8 + (i - 16) = 8 + (i - 8 - 8) := by omega
    have t1 : i - 16 < 8 := by omega
    have t2 : i - 16 - 8 = 0 := by omega
    have t5 : ¬ i < 16 := by omega
    have t6 : ¬ i < 8 := by omega
    have t7 : ¬ i - 8 < 8 := by omega
    have t8 : i < 32 := by omega
    have t9 : ¬ 16 + i < 32 := by omega
    have t11 : (c.getLsbD (8 + (16 + i))) = false := BitVec.getLsbD_of_ge _ _ (by omega)
    have t10 : i - 8 - 8 < 8 := by omega
    simp [e1, t1, t5, t6, t7, t8, t9, t11]
  · rw [mask_bit (i - 16) (by omega), mask_bit (i - 16 - 8) (by omega)]
    have e1 : i - 16 - 8 = i - 8 - 8 - 8 := by omega
    have t1 : ¬ i - 16 < 8 := by omega
    have t2 : i - 8 - 8 - 8 < 8 := by omega
    have t3 : ¬ 16 ≤ i - 16 := by omega
    have t5 : ¬ i < 16 := by omega
    have t6 : ¬ i < 8 := by omega
    have t7 : ¬ i - 8 < 8 := by omega
    have t8 : i < 32 := by omega
    have t9 : ¬ 16 + i < 32 := by omega
    have t11 : (c.getLsbD (8 + (16 + i))) = false := BitVec.getLsbD_of_ge _ _ (by omega)
    have t10 : ¬ i - 8 - 8 < 8 := by omega
    have t12 : i - 16 < 32 := by omega
    simp [e1, t1, t2, t3, t5, t6, t7, t8, t9, t10, t11, t12]

theorem rev_val (c : BitVec 32) : bits .or .u32 (bits .or .u32 (bits .and .u32 ((c.toNat : Int) / 256) 16711935) (bits .and .u32 (c.toNat : Int) 16711935 * 256 % 4294967296) / 65536)
    (bits .or .u32 (bits .and .u32 ((c.toNat : Int) / 256) 16711935) (bits .and .u32 (c.toNat : Int) 16711935 * 256 % 4294967296) * 65536 % 4294967296) = ((rev c).toNat : Int) := by
  rw [rv1_val, rv2_val, rv_rev]

set_option maxHeartbeats 400000 in
theorem rev_str (c : BitVec 32) (w : World) :
    Calls Tryz.prog 90 #[.int .u32 c.toNat] w
      fun e w' => e = .returned (.int .u32 (rev c).toNat) ∧ w = w' := by
  have hv := Lib.hid (rev_val c)
  go_enter Tryz.func90, Tryz.ntmps90
  go_wp2_with fail
  go_ret
  exact ⟨ret_int hv.out, rfl⟩

end Go.Proofs.YtaonjbkkgeiniaaGreatDoor

/- Walks over package wire: the Writer's methods. -/
namespace Go.Proofs.YtaonjbkkgeiniaaGreatDoor
open Go.RowKit

theorem be4_rev (c : BitVec 32) : be4 (rev c).toNat = four c := by
  have h := b32lt c
  have e : ∀ i j, (rev c).toNat / 256 ^ i % 256 = c.toNat / 256 ^ j % 256 → byt64 (rev c).toNat i = byt c j := by
    intro i j he
    apply UInt8.toNat_inj.1
    unfold byt64 byt
    rw [UInt8.toNat_ofNat', UInt8.toNat_ofNat']
    exact he
  obtain ⟨a0, a1, a2, a3, h0, h1, h2, h3, hn⟩ : ∃ a0 a1 a2 a3, a0 < 256 ∧ a1 < 256 ∧ a2 < 256 ∧ a3 < 256 ∧ c.toNat = a0 + 256 * a1 + 65536 * a2 + 16777216 * a3 :=
    ⟨c.toNat % 256, c.toNat / 256 % 256, c.toNat / 65536 % 256, c.toNat / 16777216, by omega, by omega, by omega, by omega, by omega⟩
  have hr : (rev c).toNat = a0 * 16777216 + a1 * 65536 + a2 * 256 + a3 := by
    rw [rev_nat, hn, show (a0 + 256 * a1 + 65536 * a2 + 16777216 * a3) % 256 = a0 by omega, show (a0 + 256 * a1 + 65536 * a2 + 16777216 * a3) / 256 % 256 = a1 by omega,
      show (a0 + 256 * a1 + 65536 * a2 + 16777216 * a3) / 65536 % 256 = a2 by omega, show (a0 + 256 * a1 + 65536 * a2 + 16777216 * a3) / 16777216 = a3 by omega]
  unfold be4 four
  rw [e 3 0 (by rw [hr, hn]; simp only [Nat.reducePow]; rw [show (a0 * 16777216 + a1 * 65536 + a2 * 256 + a3) / 16777216 = a0 by omega, show (a0 + 256 * a1 + 65536 * a2 + 16777216 * a3) / 1 = a0 + 256 * a1 + 65536 * a2 + 16777216 * a3 by omega]; omega),
    e 2 1 (by rw [hr, hn]; simp only [Nat.reducePow]; rw [show (a0 * 16777216 + a1 * 65536 + a2 * 256 + a3) / 65536 = a0 * 256 + a1 by omega, show (a0 + 256 * a1 + 65536 * a2 + 16777216 * a3) / 256 = a1 + 256 * a2 + 65536 * a3 by omega]; omega),
    e 1 2 (by rw [hr, hn]; simp only [Nat.reducePow]; rw [show (a0 * 16777216 + a1 * 65536 + a2 * 256 + a3) / 256 = a0 * 65536 + a1 * 256 + a2 by omega, show (a0 + 256 * a1 + 65536 * a2 + 16777216 * a3) / 65536 = a2 + 256 * a3 by omega]; omega),
    e 0 3 (by rw [hr, hn]; simp only [Nat.reducePow]; rw [show (a0 * 16777216 + a1 * 65536 + a2 * 256 + a3) / 1 = a0 * 16777216 + a1 * 65536 + a2 * 256 + a3 by omega, show (a0 + 256 * a1 + 65536 * a2 + 16777216 * a3) / 16777216 = a3 by omega]; omega)]

theorem strCells_cl (s : ByteArray) : Lib.strCells s = cl s.data.toList := rfl

set_option maxHeartbeats 400000 in
theorem wU32 (b : Nat) (l : List UInt8) (n : Nat) (w : World) (hn : n < 4294967296) (hl : l.length ≤ 1000000) (h : Wrt w b l) :
    Calls Tryz.prog 62 #[.pointer (some ⟨b, 0, none⟩), .int .u32 n] w
      fun e w' => e = .returned (.tuple #[]) ∧ Wrt w' b (l ++ be4 n) ∧ Below b w w' := by
  obtain ⟨oa, cap, h⟩ := h
  go_enter Tryz.func62, Tryz.ntmps62
  go_wp2_with fail
  refine (wfixed4 b l oa cap n w hn hl h).mono ?_
  rintro e w' ⟨rfl, h1, h2⟩
  go_wp2_with fail
  go_end0
  exact ⟨rfl, h1, h2⟩

set_option maxHeartbeats 400000 in
theorem wU64 (b : Nat) (l : List UInt8) (n : Nat) (w : World) (hn : n < 18446744073709551616) (hl : l.length ≤ 1000000) (h : Wrt w b l) :
    Calls Tryz.prog 63 #[.pointer (some ⟨b, 0, none⟩), .int .u64 n] w
      fun e w' => e = .returned (.tuple #[]) ∧ Wrt w' b (l ++ be8 n) ∧ Below b w w' := by
  obtain ⟨oa, cap, h⟩ := h
  go_enter Tryz.func63, Tryz.ntmps63
  go_wp2_with fail
  refine (wfixed8 b l oa cap n w hn hl h).mono ?_
  rintro e w' ⟨rfl, h1, h2⟩
  go_wp2_with fail
  go_end0
  exact ⟨rfl, h1, h2⟩

set_option maxHeartbeats 400000 in
theorem wLow (b : Nat) (l : List UInt8) (c : BitVec 32) (w : World) (hl : l.length ≤ 1000000) (h : Wrt w b l) :
    Calls Tryz.prog 64 #[.pointer (some ⟨b, 0, none⟩), .int .u32 c.toNat] w
      fun e w' => e = .returned (.tuple #[]) ∧ Wrt w' b (l ++ four c) ∧ Below b w w' := by
  rw [← be4_rev]
  have hn := b32lt (rev c)
  go_enter Tryz.func64, Tryz.ntmps64
  go_wp2_with fail
  refine (rev_str c w).mono ?_
  rintro e w' ⟨rfl, rfl⟩
  go_wp2_with fail
  refine (wU32 b l _ w hn hl h).mono ?_
  rintro e w' ⟨rfl, h1, h2⟩
  go_wp2_with fail
  go_end0
  exact ⟨rfl, h1, h2⟩

theorem wappS {ops : Array Oper} {rest : List Oper} {o : Oper} {a : Act} {Q : Exit → Act → World → Prop} (w : World) {b : Nat} {l : List UInt8} {oa : Option Addr} {cap : Nat} (h : wrt w b l oa cap) (hgd : o.guard = none) (s x : Operand)
    (ho : o.op = .call { callee := .builtin .append, args := #[s, x], argTypes := #[32, 9] }) (hs : a.eval s = .slice oa l.length cap) (t : ByteArray) (hx : a.eval x = .string t)
    (hl : l.length + t.size ≤ 1000000000)
    (hK : ∀ oa' cap' w1, w1.cell? ⟨b, 0, none⟩ = some (.slice oa l.length cap) → w1.frozen? ⟨b, 0, none⟩ = false → wrt (w1.setCell ⟨b, 0, none⟩ (.slice oa' (l ++ t.data.toList).length cap')) b (l ++ t.data.toList) oa' cap' →
      Below b w (w1.setCell ⟨b, 0, none⟩ (.slice oa' (l ++ t.data.toList).length cap')) → wpList Tryz.prog ops Q rest (a.put o.dst (.slice oa' (l ++ t.data.toList).length cap')) w1) :
    wpList Tryz.prog ops Q (o :: rest) a w := by
  obtain ⟨i0, hi, hz0, hz1, hz2⟩ := info_parts infoU8
  have hlt := h.lt
  have hts : t.data.toList.length = t.size := rfl
  refine Lib.wpList_append_own_string w hgd s x _ _ ho (b + 1) 5 i0 Tryz.underlying32 Tryz.underlying9 hi hz0 hz1 hz2 _ l.length (cl l) hs h.2 t hx (by unfold maxLen; omega) (by omega) (by omega) ?_
  intro v' w1 hown hg _
  rw [strCells_cl, ← hts] at hown
  have hne : some b ≠ Value.ownBlock (.slice oa l.length cap) := by
    intro e
    have := h.2.lt b e.symm
    omega
  have hb1 : w1.heap[b]? = some (.cells #[.slice oa l.length cap] 99) := by
    rw [hg.block b hlt hne]; exact h.1
  have hv : ∃ oa' cap', v' = .slice oa' (l.length + t.data.toList.length) cap' := by
    rcases hown.2 with ⟨rfl, h0⟩ | ⟨g, c, cur, rfl, _⟩
    · exact ⟨none, 0, by rw [h0]⟩
    · exact ⟨_, _, rfl⟩
  obtain ⟨oa', cap', rfl⟩ := hv
  have hK' := hK oa' cap' w1 (by rw [cell_of_row _ _ _ _ _ _ hb1]; rfl) (frozen_of_row _ _ _ _ _ hb1)
  rw [List.length_append] at hK'
  refine hK' ⟨?_, ?_⟩ ?_
  · rw [heap_setCell_same _ _ _ _ _ _ hb1, List.length_append]; rfl
  · have := ownsRow_setCell_below hown (a := ⟨b, 0, none⟩) (by show b < b + 1; omega) (.slice oa' (l.length + t.data.toList.length) cap')
    rw [List.length_append, cl_append]
    exact this
  · have h2 : Below b w w1 := (Below.refl b w).grown hg (by omega) (fun k e => by have := (h.2.lt k e).1; omega)
    exact h2.setCell (Nat.le_refl _) _

set_option maxHeartbeats 400000 in
theorem wRaw (b : Nat) (l : List UInt8) (t : ByteArray) (w : World) (hl : l.length + t.size ≤ 1000000000) (h : Wrt w b l) :
    Calls Tryz.prog 67 #[.pointer (some ⟨b, 0, none⟩), .string t] w
      fun e w' => e = .returned (.tuple #[]) ∧ Wrt w' b (l ++ t.data.toList) ∧ Below b w w' := by
  obtain ⟨oa, cap, h⟩ := h
  have hc := h.cell
  have H := Lib.hid h
  have HL := Lib.hid hl
  clear h hl
  go_enter Tryz.func67, Tryz.ntmps67
  go_wp2_with (at_builtin; refine wappS w H.out rfl _ _ rfl rfl t rfl HL.out ?_; intro oa1 cap1 w1 hc1 hf1 hw1 hb1)
  go_end0
  refine ⟨rfl, ⟨oa1, cap1, ?_⟩, ?_⟩
  · simpa using hw1
  · simpa using hb1

theorem wrt.conv {w : World} {b : Nat} {l : List UInt8} {oa : Option Addr} {cap : Nat} (h : wrt w b l oa cap) :
    (convert 32 9 (.slice oa l.length cap)).run Tryz.prog w = .ok (.string (bs l)) w := by
  rcases h.2.2 with ⟨hv, h0⟩ | ⟨g, c, cur, hv, _⟩
  · obtain rfl : l = [] := List.eq_nil_of_length_eq_zero h0
    cases hv
    rw [List.length_nil, run_convert_bytes_string w _ _ 5 _ _ _ Tryz.underlying32 Tryz.underlying5 Tryz.underlying9]
    rfl
  · cases hv
    refine run_convert_bytes_back _ _ _ 5 _ _ l Tryz.underlying32 Tryz.underlying5 Tryz.underlying9 ?_
    intro j hj
    have := h.2.cells (g := g) rfl j (.int .u8 (l[j].toNat : Int)) (by unfold cl; simp [hj])
    exact this

set_option maxHeartbeats 400000 in
theorem wBytes (b : Nat) (l : List UInt8) (w : World) (h : Wrt w b l) :
    Calls Tryz.prog 66 #[.pointer (some ⟨b, 0, none⟩)] w
      fun e w' => e = .returned (.string (bs l)) ∧ w = w' := by
  obtain ⟨oa, cap, h⟩ := h
  have hc := h.cell
  have hconv := h.conv
  clear h
  go_enter Tryz.func66, Tryz.ntmps66
  go_wp2_with fail
  go_ret
  exact ⟨rfl, rfl⟩

end Go.Proofs.YtaonjbkkgeiniaaGreatDoor

/- Walks over package wire: the Reader. -/
namespace Go.Proofs.YtaonjbkkgeiniaaGreatDoor
open Go.RowKit

theorem bel_drewN {B : Nat} {w w1 : World} (h : Below B w w1) (n : Nat) : Below B w (w1.drewN n) := ⟨h.os, h.tape, h.output, h.size, h.block⟩
theorem bel_undrewN {B n : Nat} {w w1 : World} (h : Below B (w.drewN n) w1) : Below B w w1 := ⟨h.os, h.tape, h.output, h.size, h.block⟩

/-- a Reader: its string, its place, its error, that error's place -/
structure Rd where
  s : ByteArray
  p : Nat
  e : Int
  t : Nat
def rd (w : World) (b : Nat) (r : Rd) : Prop := w.heap[b]? = some (.cells #[.string r.s, .int .i64 r.p, .int .i64 r.e, .int .i64 r.t] 106)
theorem rd.lt {w : World} {b : Nat} {r : Rd} (h : rd w b r) : b < w.heap.size := (Array.getElem?_eq_some_iff.1 h).1
theorem rd.c0 {w : World} {b : Nat} {r : Rd} (h : rd w b r) : w.cell? ⟨b, 0, none⟩ = some (.string r.s) := by rw [cell_of_row _ _ _ _ _ _ h]; rfl
theorem rd.c1 {w : World} {b : Nat} {r : Rd} (h : rd w b r) : w.cell? ⟨b, 1, none⟩ = some (.int .i64 r.p) := by rw [cell_of_row _ _ _ _ _ _ h]; rfl
theorem rd.c2 {w : World} {b : Nat} {r : Rd} (h : rd w b r) : w.cell? ⟨b, 2, none⟩ = some (.int .i64 r.e) := by rw [cell_of_row _ _ _ _ _ _ h]; rfl
theorem rd.c3 {w : World} {b : Nat} {r : Rd} (h : rd w b r) : w.cell? ⟨b, 3, none⟩ = some (.int .i64 r.t) := by rw [cell_of_row _ _ _ _ _ _ h]; rfl
theorem rd.fr {w : World} {b : Nat} {r : Rd} (h : rd w b r) (j : Nat) : w.frozen? ⟨b, j, none⟩ = false := frozen_of_row _ _ _ _ _ h
theorem rd.keep {w w' : World} {b B : Nat} {r : Rd} (h : rd w b r) (hb : Below B w w') (hB : b < B) : rd w' b r := by unfold rd; rw [hb.block b hB]; exact h
/-- can so many bytes be taken? what is taken; what is left -/
def Rd.can (r : Rd) (n : Nat) : Prop := r.e = 0 ∧ r.p + n ≤ r.s.size
instance (r : Rd) (n : Nat) : Decidable (r.can n) := by unfold Rd.can; infer_instance
def Rd.took (r : Rd) (n : Nat) : ByteArray := if r.can n then r.s.extract r.p (r.p + n) else ⟨#[]⟩
def Rd.after (r : Rd) (n : Nat) : Rd := if r.can n then { r with p := r.p + n } else if r.e = 0 then { r with e := 8, t := r.p } else r
/-- it is within bounds -/
def Rd.fine (r : Rd) : Prop := r.s.size ≤ 1000000 ∧ r.p ≤ r.s.size
theorem Rd.fine.next {r : Rd} (h : r.fine) (n : Nat) : (r.after n).fine := by
  unfold Rd.after
  split
  · rename_i hc; exact ⟨h.1, hc.2⟩
  · split <;> exact h
theorem Rd.size_took (r : Rd) (n : Nat) : (r.took n).size ≤ n := by
  unfold Rd.took
  split
  · rw [ByteArray.size_extract]; omega
  · exact Nat.zero_le _

set_option maxHeartbeats 400000 in
theorem rNew (s : ByteArray) (w : World) :
    Calls Tryz.prog 44 #[.string s] w
      fun e w' => e = .returned (.pointer (some ⟨w.heap.size, 0, none⟩)) ∧ rd w' w.heap.size ⟨s, 0, 0, 0⟩ ∧ Below w.heap.size w w' := by
  go_enter Tryz.func44, Tryz.ntmps44
  go_wp2_with fail
  go_ret
  exact ⟨rfl, heap_alloc_new _ _, (Below.refl _ _).alloc (Nat.le_refl _) _⟩

set_option maxHeartbeats 400000 in
theorem rGood (b : Nat) (r : Rd) (w : World) (h : rd w b r) :
    Calls Tryz.prog 120 #[.pointer (some ⟨b, 0, none⟩)] w
      fun e w' => e = .returned (.bool (decide (r.e = 0))) ∧ w = w' := by
  have h2 := h.c2
  go_enter Tryz.func120, Tryz.ntmps120
  go_wp2_with fail
  go_ret
  exact ⟨rfl, rfl⟩

set_option maxHeartbeats 400000 in
theorem rWrong (b : Nat) (r : Rd) (e : Int) (q : Nat) (w : World) (h : rd w b r) :
    Calls Tryz.prog 121 #[.pointer (some ⟨b, 0, none⟩), .int .i64 e, .int .i64 q] w
      fun en w' => en = .returned (.tuple #[]) ∧ rd w' b ⟨r.s, q, e, q⟩ ∧ Below b w w' := by
  have h1 := h.c1
  have h2 := h.c2
  have h3 := h.c3
  have f1 := h.fr 1
  have f2 := h.fr 2
  have f3 := h.fr 3
  go_enter Tryz.func121, Tryz.ntmps121
  go_wp2_with fail
  go_end0
  refine ⟨rfl, ?_, (((Below.refl b w).setCell (p := ⟨b, 2, none⟩) (Nat.le_refl _) _).setCell (p := ⟨b, 3, none⟩) (Nat.le_refl _) _).setCell (p := ⟨b, 1, none⟩) (Nat.le_refl _) _⟩
  have k1 := heap_setCell_same _ _ 2 _ _ (.int .i64 e) h
  have k2 := heap_setCell_same _ _ 3 _ _ (.int .i64 q) k1
  have k3 := heap_setCell_same _ _ 1 _ _ (.int .i64 q) k2
  exact k3

set_option maxHeartbeats 400000 in
theorem rAt (b : Nat) (r : Rd) (w : World) (h : rd w b r) :
    Calls Tryz.prog 136 #[.pointer (some ⟨b, 0, none⟩)] w
      fun e w' => e = .returned (.int .i64 r.p) ∧ w = w' := by
  have h1 := h.c1
  go_enter Tryz.func136, Tryz.ntmps136
  go_wp2_with fail
  go_ret
  exact ⟨rfl, rfl⟩

set_option maxHeartbeats 400000 in
theorem rErr (b : Nat) (r : Rd) (w : World) (h : rd w b r) :
    Calls Tryz.prog 134 #[.pointer (some ⟨b, 0, none⟩)] w
      fun e w' => e = .returned (.tuple #[.int .i64 r.e, .int .i64 r.t]) ∧ Below w.heap.size w w' := by
  have h2 := h.c2
  have h3 := h.c3
  go_enter Tryz.func134, Tryz.ntmps134
  go_wp2_with fail
  go_quiet (fail)
  go_wp2_with fail
  go_ret2
  exact ⟨rfl, bel_drewN (Below.refl _ _) _⟩

set_option maxHeartbeats 400000 in
theorem rTake (b : Nat) (r : Rd) (n : Nat) (w : World) (hf : r.fine) (hn : n ≤ 1000000) (h : rd w b r) :
    Calls Tryz.prog 99 #[.pointer (some ⟨b, 0, none⟩), .int .i64 n] w
      fun e w' => e = .returned (.tuple #[.string (r.took n), .bool (decide (r.can n))]) ∧ rd w' b (r.after n) ∧ Below b w w' := by
  obtain ⟨hs, hp⟩ := hf
  have hlt := h.lt
  have c0 := h.c0
  have c1 := h.c1
  by_cases he : r.e = 0
  · have d1 : decide (r.e = 0) = true := decide_eq_true he
    by_cases hc : r.p + n ≤ r.s.size
    · have hcan : r.can n := ⟨he, hc⟩
      have e1 : r.took n = r.s.extract r.p (r.p + n) := by unfold Rd.took; rw [if_pos hcan]
      have e2 : r.after n = { r with p := r.p + n } := by unfold Rd.after; rw [if_pos hcan]
      have e3 : decide (r.can n) = true := decide_eq_true hcan
      rw [e1, e2, e3]
      have w1 : IntKind.i64.wrap ((r.s.size : Int) - (r.p : Int)) = (r.s.size : Int) - (r.p : Int) := IntWalk.i64_in _ (by omega)
      have w2 : IntKind.i64.wrap ((r.p : Int) + (n : Int)) = (r.p : Int) + (n : Int) := IntWalk.i64_in _ (by omega)
      have d2 : decide ((r.s.size : Int) - (r.p : Int) < (n : Int)) = false := decide_eq_false (by omega)
      have b1 : (0 : Int) ≤ (r.p : Int) := by omega
      have b2 : (r.p : Int) ≤ (r.p : Int) + (n : Int) := by omega
      have b3 : (r.p : Int) + (n : Int) ≤ (r.s.size : Int) := by omega
      have b4 : ((r.p : Int) + (n : Int)).toNat = r.p + n := by omega
      have fr := h.fr 1
      clear e1 e2 e3
      go_enter Tryz.func99, Tryz.ntmps99
      go_wp2_with fail
      refine (rGood b r w h).mono ?_
      rintro e w' ⟨rfl, rfl⟩
      go_wp2_with fail
      go_quiet (fail)
      go_wp2_with fail
      go_quiet (fail)
      go_wp2_with fail
      go_ret2
      refine ⟨rfl, ?_, (bel_drewN (Below.refl b w) _).setCell (p := ⟨b, 1, none⟩) (Nat.le_refl _) _⟩
      exact heap_setCell_same (w.drewN _) _ 1 _ _ (.int .i64 ((r.p : Int) + (n : Int))) h
    · have hcan : ¬ r.can n := fun k => hc k.2
      have e1 : r.took n = ⟨#[]⟩ := by unfold Rd.took; rw [if_neg hcan]
      have e2 : r.after n = { r with e := 8, t := r.p } := by unfold Rd.after; rw [if_neg hcan, if_pos he]
      have e3 : decide (r.can n) = false := decide_eq_false hcan
      rw [e1, e2, e3]
      have w1 : IntKind.i64.wrap ((r.s.size : Int) - (r.p : Int)) = (r.s.size : Int) - (r.p : Int) := IntWalk.i64_in _ (by omega)
      have d2 : decide ((r.s.size : Int) - (r.p : Int) < (n : Int)) = true := decide_eq_true (by omega)
      clear e1 e2 e3
      go_enter Tryz.func99, Tryz.ntmps99
      go_wp2_with fail
      refine (rGood b r w h).mono ?_
      rintro e w' ⟨rfl, rfl⟩
      go_wp2_with fail
      go_quiet (fail)
      go_wp2_with fail
      refine (rWrong b r 8 r.p (w.drewN _) h).mono ?_
      rintro e w' ⟨rfl, hr, hb⟩
      go_wp2_with fail
      go_ret2
      exact ⟨rfl, hr, bel_undrewN hb⟩
  · have hcan : ¬ r.can n := fun k => he k.1
    have d1 : decide (r.e = 0) = false := decide_eq_false he
    have e1 : r.took n = ⟨#[]⟩ := by unfold Rd.took; rw [if_neg hcan]
    have e2 : r.after n = r := by unfold Rd.after; rw [if_neg hcan, if_neg he]
    have e3 : decide (r.can n) = false := decide_eq_false hcan
    rw [e1, e2, e3]
    clear e1 e2 e3
    go_enter Tryz.func99, Tryz.ntmps99
    go_wp2_with fail
    refine (rGood b r w h).mono ?_
    rintro e w' ⟨rfl, rfl⟩
    go_wp2_with fail
    go_ret2
    exact ⟨rfl, h, Below.refl _ _⟩

set_option maxHeartbeats 400000 in
theorem rRaw (b : Nat) (r : Rd) (n : Nat) (w : World) (hf : r.fine) (hn : n ≤ 1000000) (h : rd w b r) :
    Calls Tryz.prog 135 #[.pointer (some ⟨b, 0, none⟩), .int .i64 n] w
      fun e w' => e = .returned (.string (r.took n)) ∧ rd w' b (r.after n) ∧ Below b w w' := by
  go_enter Tryz.func135, Tryz.ntmps135
  go_wp2_with fail
  refine (rTake b r n w hf hn h).mono ?_
  rintro e w' ⟨rfl, hr, hb⟩
  go_wp2_with fail
  go_ret
  exact ⟨rfl, hr, hb⟩

/-- the number of bytes, the highest first -/
def num (l : List UInt8) : Nat := l.foldl (fun n b => n * 256 + b.toNat) 0
theorem num_snoc (l : List UInt8) (b : UInt8) : num (l ++ [b]) = num l * 256 + b.toNat := by unfold num; rw [List.foldl_append]; rfl
theorem num_lt (l : List UInt8) : num l < 256 ^ l.length := by
  have : ∀ (l : List UInt8) (n k : Nat), n < 256 ^ k → l.foldl (fun n b => n * 256 + b.toNat) n < 256 ^ (k + l.length) := by
    intro l
    induction l with
    | nil => intro n k h; exact h
    | cons b l ih =>
      intro n k h
      have hb := b8lt b
      have := ih (n * 256 + b.toNat) (k + 1) (by rw [Nat.pow_succ]; omega)
      rw [List.length_cons, show k + (l.length + 1) = k + 1 + l.length by omega]
      exact this
  have h := this l 0 0 (by decide)
  rw [Nat.zero_add] at h
  exact h

theorem or_byte (n : Nat) (b : UInt8) (h : n < 72057594037927936) : bits .or .u64 ((n : Int) * 256 % 18446744073709551616) (b.toNat : Int) = ((n * 256 + b.toNat : Nat) : Int) := by
  have hb := b8lt b
  have e : ((n : Int) * 256 % 18446744073709551616) = ((n * 256 : Nat) : Int) := by omega
  have hx : n * 256 ||| b.toNat = n * 256 + b.toNat := by
    have := Nat.shiftLeft_add_eq_or_of_lt (i := 8) (b := b.toNat) (by omega) n
    rw [Nat.shiftLeft_eq] at this
    exact this.symm
  rw [e]
  show IntKind.u64.wrap ((BitVec.ofInt 64 ((n * 256 : Nat) : Int) ||| BitVec.ofInt 64 (b.toNat : Int)).toNat : Int) = _
  rw [BitVec.toNat_or]
  rw [show (BitVec.ofInt 64 ((n * 256 : Nat) : Int)).toNat = n * 256 by simp; omega, show (BitVec.ofInt 64 (b.toNat : Int)).toNat = b.toNat by simp, hx]
  exact IntWalk.u64_in _ (by omega)

theorem num_step (s : ByteArray) (k : Nat) (h : k < s.size) (h8 : s.size ≤ 8) : bits .or .u64 (IntKind.u64.wrap (((num (s.data.toList.take k) : Nat) : Int) * 256)) (IntKind.u64.wrap (s[k].toNat : Int)) = ((num (s.data.toList.take (k + 1)) : Nat) : Int) := by
  have h1 := num_lt (s.data.toList.take k)
  have h2 : (s.data.toList.take k).length ≤ 7 := by rw [List.length_take]; omega
  have h3 : 256 ^ (s.data.toList.take k).length ≤ 256 ^ 7 := Nat.pow_le_pow_right (by omega) h2
  have hb := b8lt s[k]
  rw [IntWalk.u64_in _ (by omega), IntWalk.u64_in _ (by omega)]
  have e : ((num (s.data.toList.take k) : Nat) : Int) * 256 % 18446744073709551616 = ((num (s.data.toList.take k) : Nat) : Int) * 256 := by omega
  rw [← e, or_byte _ _ (by omega)]
  have : s.data.toList.take (k + 1) = s.data.toList.take k ++ [s[k]] := by
    rw [List.take_succ_eq_append_getElem (by simpa using h)]; rfl
  rw [this, num_snoc]

set_option maxRecDepth 100000 in
set_option maxHeartbeats 400000 in
theorem rFixed8 (b : Nat) (r : Rd) (n : Nat) (w : World) (hf : r.fine) (hn : n ≤ 8) (h : rd w b r) :
    Calls Tryz.prog 74 #[.pointer (some ⟨b, 0, none⟩), .int .i64 n] w
      fun e w' => e = .returned (.int .u64 (num (r.took n).data.toList)) ∧ rd w' b (r.after n) ∧ Below b w w' := by
  have hsz := r.size_took n
  go_enter Tryz.func74, Tryz.ntmps74
  go_wp2_with fail
  refine (rTake b r n w hf (by omega) h).mono ?_
  rintro e w' ⟨rfl, hr, hb⟩
  obtain ⟨s, es⟩ : ∃ x, r.took n = x := ⟨_, rfl⟩
  rw [es] at hsz ⊢
  have ES := Lib.hid es
  clear es
  have HR := Lib.hid hr
  have HB := Lib.hid hb
  clear hr hb h hf
  go_wp2_with fail
  go_loop [7, 8, 17] (fun x y i => ∃ k : Nat, k ≤ s.size ∧ i = .int .i64 k ∧ x = .int .u64 (num (s.data.toList.take k))) (fun _ _ i => s.size - (intOf i).toNat)
  case atStart => exact ⟨0, Nat.zero_le _, rfl, rfl⟩
  case round =>
    obtain ⟨k, hk, rfl, rfl⟩ := hrel
    by_cases hlt : k < s.size
    · have hst := Lib.hid (num_step s k hlt (by omega))
      go_wp2_with fail
      go_round
      case rel => exact ⟨k + 1, by omega, by go_num, val_int hst.out⟩
      case measure => simp [intOf]; omega
    · go_wp2_with fail
      go_ret
      refine ⟨ret_int (by rw [ES.out, List.take_of_length_le (by simp; omega)]), HR.out, HB.out⟩

set_option maxRecDepth 100000 in
set_option maxHeartbeats 400000 in
theorem rFixed4 (b : Nat) (r : Rd) (w : World) (hf : r.fine) (h : rd w b r) :
    Calls Tryz.prog 148 #[.pointer (some ⟨b, 0, none⟩), .int .i64 4] w
      fun e w' => e = .returned (.int .u32 (num (r.took 4).data.toList)) ∧ rd w' b (r.after 4) ∧ Below b w w' := by
  have hsz := r.size_took 4
  go_enter Tryz.func148, Tryz.ntmps148
  go_wp2_with fail
  refine (rTake b r 4 w hf (by omega) h).mono ?_
  rintro e w' ⟨rfl, hr, hb⟩
  obtain ⟨s, es⟩ : ∃ x, r.took 4 = x := ⟨_, rfl⟩
  rw [es] at hsz ⊢
  have ES := Lib.hid es
  clear es
  have HR := Lib.hid hr
  have HB := Lib.hid hb
  clear hr hb h hf
  go_wp2_with fail
  go_loop [7, 8, 17] (fun x y i => ∃ k : Nat, k ≤ s.size ∧ i = .int .i64 k ∧ x = .int .u64 (num (s.data.toList.take k))) (fun _ _ i => s.size - (intOf i).toNat)
  case atStart => exact ⟨0, Nat.zero_le _, rfl, rfl⟩
  case round =>
    obtain ⟨k, hk, rfl, rfl⟩ := hrel
    by_cases hlt : k < s.size
    · have hst := Lib.hid (num_step s k hlt (by omega))
      go_wp2_with fail
      go_round
      case rel => exact ⟨k + 1, by omega, by go_num, val_int hst.out⟩
      case measure => simp [intOf]; omega
    · have h1 := num_lt s.data.toList
      have h3 : 256 ^ s.data.toList.length ≤ 256 ^ 4 := Nat.pow_le_pow_right (by omega) hsz
      have e1 : s.data.toList.take k = s.data.toList := List.take_of_length_le (by simp; omega)
      rw [e1]
      have EV := Lib.hid (show num (r.took 4).data.toList = num s.data.toList by rw [ES.out])
      obtain ⟨v, ev⟩ : ∃ v, num s.data.toList = v := ⟨_, rfl⟩
      rw [ev] at h1 EV ⊢
      clear ev e1
      have hm : ((v : Int) % 4294967296) = v := by omega
      go_wp2_with fail
      go_ret
      exact ⟨ret_int (by rw [EV.out]), HR.out, HB.out⟩

set_option maxHeartbeats 400000 in
theorem rU32 (b : Nat) (r : Rd) (w : World) (hf : r.fine) (h : rd w b r) :
    Calls Tryz.prog 132 #[.pointer (some ⟨b, 0, none⟩)] w
      fun e w' => e = .returned (.int .u32 (num (r.took 4).data.toList)) ∧ rd w' b (r.after 4) ∧ Below b w w' := by
  go_enter Tryz.func132, Tryz.ntmps132
  go_wp2_with fail
  refine (rFixed4 b r w hf h).mono ?_
  rintro e w' ⟨rfl, hr, hb⟩
  go_wp2_with fail
  go_ret
  exact ⟨rfl, hr, hb⟩

set_option maxHeartbeats 400000 in
theorem rU64 (b : Nat) (r : Rd) (w : World) (hf : r.fine) (h : rd w b r) :
    Calls Tryz.prog 45 #[.pointer (some ⟨b, 0, none⟩)] w
      fun e w' => e = .returned (.int .u64 (num (r.took 8).data.toList)) ∧ rd w' b (r.after 8) ∧ Below b w w' := by
  go_enter Tryz.func45, Tryz.ntmps45
  go_wp2_with fail
  refine (rFixed8 b r 8 w hf (by omega) h).mono ?_
  rintro e w' ⟨rfl, hr, hb⟩
  go_wp2_with fail
  go_ret
  exact ⟨rfl, hr, hb⟩

/-- four bytes, the lowest first, as a number -/
def lowN (l : List UInt8) : BitVec 32 := rev (BitVec.ofNat 32 (num l))
set_option maxHeartbeats 400000 in
theorem rLow (b : Nat) (r : Rd) (w : World) (hf : r.fine) (h : rd w b r) :
    Calls Tryz.prog 133 #[.pointer (some ⟨b, 0, none⟩)] w
      fun e w' => e = .returned (.int .u32 (lowN (r.took 4).data.toList).toNat) ∧ rd w' b (r.after 4) ∧ Below b w w' := by
  have hsz := r.size_took 4
  unfold lowN
  have h1 := num_lt (r.took 4).data.toList
  have h3 : 256 ^ (r.took 4).data.toList.length ≤ 256 ^ 4 := Nat.pow_le_pow_right (by omega) hsz
  have h4 : (num (r.took 4).data.toList : Int) = ((BitVec.ofNat 32 (num (r.took 4).data.toList)).toNat : Int) := by rw [BitVec.toNat_ofNat]; omega
  have hu := rU32 b r w hf h
  rw [h4] at hu
  generalize BitVec.ofNat 32 (num (r.took 4).data.toList) = c at *
  clear h4 h1 h3 hsz
  have HU := Lib.hid hu
  clear hu
  go_enter Tryz.func133, Tryz.ntmps133
  go_wp2_with fail
  refine HU.out.mono ?_
  rintro e w' ⟨rfl, hr, hb⟩
  go_wp2_with fail
  refine (rev_str c w').mono ?_
  rintro e w' ⟨rfl, rfl⟩
  go_wp2_with fail
  go_ret
  exact ⟨rfl, hr, hb⟩

end Go.Proofs.YtaonjbkkgeiniaaGreatDoor

/- Walks over package crc: bytes, Seal. -/
namespace Go.Proofs.YtaonjbkkgeiniaaGreatDoor
open Go.RowKit

set_option maxHeartbeats 400000 in
theorem bytes_any (c : BitVec 32) (w : World) :
    Calls Tryz.prog 98 #[.int .u32 c.toNat] w
      fun e w' => e = .returned (.slice (some ⟨w.heap.size, 0, none⟩) 4 4) ∧ w.alloc (.cells (bts (four c)) 5) = w' := by
  rw [bts_four]
  go_enter Tryz.func98, Tryz.ntmps98
  go_wp2_with fail
  go_ret
  exact ⟨rfl, rfl⟩

set_option maxHeartbeats 400000 in
theorem seal_str (s : ByteArray) (w : World) (hs : s.size ≤ 1000000000) :
    Calls Tryz.prog 72 #[.string s] w
      fun e w' => e = .returned (.string (bs (sealL s.data.toList))) ∧ Below w.heap.size w w' := by
  have hc := conv_bts (four (crc s.data.toList)) 4 4 rfl
  have H := Lib.hid hc
  clear hc
  go_enter Tryz.func72, Tryz.ntmps72
  go_wp2_with fail
  refine (of_str _ _ hs).mono ?_
  rintro e w1 ⟨rfl, hb1⟩
  go_wp2_with fail
  refine (bytes_any _ _).mono ?_
  rintro e w2 ⟨rfl, rfl⟩
  have hc := H.out w1
  go_wp2_with fail
  go_ret
  exact ⟨rfl, hb1.alloc hb1.size _⟩

end Go.Proofs.YtaonjbkkgeiniaaGreatDoor

/- Walks over package crc: Open, for a seat without the Crc laws. -/
namespace Go.Proofs.YtaonjbkkgeiniaaGreatDoor
open Go.RowKit

def isSealed (l : List UInt8) : Bool := sealL (l.take (l.length - 4)) == l

set_option maxHeartbeats 400000 in
theorem open_short (s : ByteArray) (w : World) (h : s.size < 4) :
    Calls Tryz.prog 43 #[.string s] w
      fun e w' => e = .returned (.tuple #[.string (bs []), .int .i64 8]) ∧ Below w.heap.size w w' := by
  go_enter Tryz.func43, Tryz.ntmps43
  go_wp2_with fail
  go_ret2
  exact ⟨rfl, Below.refl _ _⟩

set_option maxHeartbeats 400000 in
theorem open_yes (s : ByteArray) (w : World) (hs : s.size ≤ 1000000000) (h : 4 ≤ s.size) (hy : isSealed s.data.toList = true) :
    Calls Tryz.prog 43 #[.string s] w
      fun e w' => e = .returned (.tuple #[.string (s.extract 0 (s.size - 4)), .int .i64 0]) ∧ Below w.heap.size w w' := by
  have HY := Lib.hid hy
  clear hy
  obtain ⟨n, hn⟩ : ∃ n, n = s.size - 4 := ⟨_, rfl⟩
  have e1 : (s.size : Int) - 4 = (n : Int) := by omega
  have h1 : n ≤ s.size := by omega
  have hs1 : (s.extract 0 n).size ≤ 1000000000 := by simp; omega
  have HS := Lib.hid hs1
  rw [← hn]
  have HN := Lib.hid hn
  clear hn hs1
  go_enter Tryz.func43, Tryz.ntmps43
  go_wp2_with fail
  refine (seal_str (s.extract 0 n) _ HS.out).mono ?_
  rintro e w1 ⟨rfl, hb1⟩
  obtain ⟨x, hx⟩ : ∃ x, x = bs (sealL (s.extract 0 n).data.toList) := ⟨_, rfl⟩
  rw [← hx]
  have hc : (x.toList == s.toList) = true := by
    have := HY.out
    unfold isSealed at this
    rw [hx, toList_bs, ByteArray.toList_eq]
    simpa [HN.out] using this
  clear hx
  go_wp2_with fail
  go_ret2
  exact ⟨rfl, hb1⟩

set_option maxHeartbeats 400000 in
theorem open_no (s : ByteArray) (w : World) (hs : s.size ≤ 1000000000) (h : 4 ≤ s.size) (hy : isSealed s.data.toList = false) :
    Calls Tryz.prog 43 #[.string s] w
      fun e w' => e = .returned (.tuple #[.string (bs []), .int .i64 42]) ∧ Below w.heap.size w w' := by
  have HY := Lib.hid hy
  clear hy
  obtain ⟨n, hn⟩ : ∃ n, n = s.size - 4 := ⟨_, rfl⟩
  have e1 : (s.size : Int) - 4 = (n : Int) := by omega
  have h1 : n ≤ s.size := by omega
  have hs1 : (s.extract 0 n).size ≤ 1000000000 := by simp; omega
  have HS := Lib.hid hs1
  have HN := Lib.hid hn
  clear hn hs1
  go_enter Tryz.func43, Tryz.ntmps43
  go_wp2_with fail
  refine (seal_str (s.extract 0 n) _ HS.out).mono ?_
  rintro e w1 ⟨rfl, hb1⟩
  obtain ⟨x, hx⟩ : ∃ x, x = bs (sealL (s.extract 0 n).data.toList) := ⟨_, rfl⟩
  rw [← hx]
  have hc : (x.toList == s.toList) = false := by
    have := HY.out
    unfold isSealed at this
    rw [hx, toList_bs, ByteArray.toList_eq]
    simpa [HN.out] using this
  clear hx
  go_wp2_with fail
  go_ret2
  exact ⟨rfl, hb1⟩


theorem take_seal (l : List UInt8) : (sealL l).take ((sealL l).length - 4) = l := by
  unfold sealL; simp [length_four]
theorem isSealed_seal (l : List UInt8) : isSealed (sealL l) = true := by
  unfold isSealed; rw [take_seal]; simp
theorem length_seal (l : List UInt8) : (sealL l).length = l.length + 4 := by unfold sealL; simp [length_four]
theorem seal_to (s : ByteArray) (x : ByteArray) (w : World) (hs : s.size ≤ 1000000000) (h : bs (sealL s.data.toList) = x) :
    Calls Tryz.prog 72 #[.string s] w fun e w' => e = .returned (.string x) ∧ Below w.heap.size w w' := by
  subst h; exact seal_str s w hs

end Go.Proofs.YtaonjbkkgeiniaaGreatDoor

