/- The checksum of package crc in plain terms (32-bit words): step, table, run, and the spelling of Go's operations on uint32 and uint8 as operations on words. -/
import Derived.WalkKit
namespace Go.Proofs.Ytkgcjelipllpdaa

/-! ### Go's operations on uint32, as operations on words -/
theorem b32lt (x : BitVec 32) : x.toNat < 4294967296 := x.isLt
theorem b8lt (x : UInt8) : x.toNat < 256 := UInt8.toNat_lt x

theorem g_xor (x y : BitVec 32) : bits .xor .u32 (x.toNat : Int) (y.toNat : Int) = ((x ^^^ y).toNat : Int) := by
  rw [u32_xor_nat _ _ (b32lt x) (b32lt y), BitVec.toNat_xor]
theorem g_and (x y : BitVec 32) : bits .and .u32 (x.toNat : Int) (y.toNat : Int) = ((x &&& y).toNat : Int) := by
  rw [u32_and_nat _ _ (b32lt x) (b32lt y), BitVec.toNat_and]
theorem g_or (x y : BitVec 32) : bits .or .u32 (x.toNat : Int) (y.toNat : Int) = ((x ||| y).toNat : Int) := by
  rw [u32_or_nat _ _ (b32lt x) (b32lt y), BitVec.toNat_or]
theorem g_xor_n (x : BitVec 32) (n : Nat) (h : n < 4294967296) : bits .xor .u32 (x.toNat : Int) (n : Int) = ((x ^^^ BitVec.ofNat 32 n).toNat : Int) := by
  rw [u32_xor_nat _ _ (b32lt x) h, BitVec.toNat_xor, BitVec.toNat_ofNat, Nat.mod_eq_of_lt (show n < 2 ^ 32 from h)]
theorem g_and_n (x : BitVec 32) (n : Nat) (h : n < 4294967296) : bits .and .u32 (x.toNat : Int) (n : Int) = ((x &&& BitVec.ofNat 32 n).toNat : Int) := by
  rw [u32_and_nat _ _ (b32lt x) h, BitVec.toNat_and, BitVec.toNat_ofNat, Nat.mod_eq_of_lt (show n < 2 ^ 32 from h)]
theorem g_shr (x : BitVec 32) (k : Nat) : ((x.toNat : Int) / ((2 ^ k : Nat) : Int)) = ((x >>> k).toNat : Int) := by
  rw [BitVec.toNat_ushiftRight, Nat.shiftRight_eq_div_pow]; rfl

theorem shr1 (x : BitVec 32) : ((x.toNat : Int) / (2 : Int)) = ((x >>> 1).toNat : Int) := g_shr x 1
theorem shr8 (x : BitVec 32) : ((x.toNat : Int) / (256 : Int)) = ((x >>> 8).toNat : Int) := g_shr x 8
theorem xor_poly (x : BitVec 32) : bits .xor .u32 ((x.toNat : Int) / 2) 3988292384 = ((x >>> 1 ^^^ 0xEDB88320#32).toNat : Int) := by
  rw [shr1]
  exact g_xor_n (x >>> 1) 3988292384 (by omega)
theorem testBit1 (i : Nat) (h : i ≠ 0) : Nat.testBit 1 i = false := by
  cases ht : Nat.testBit 1 i
  · rfl
  · exact absurd (Nat.testBit_one_eq_true_iff_self_eq_zero.1 ht) h
theorem and_one (x : BitVec 32) : x &&& 1#32 = if x.getLsbD 0 then 1#32 else 0#32 := by
  apply BitVec.eq_of_getLsbD_eq
  intro i hi
  rw [BitVec.getLsbD_and, BitVec.getLsbD_ofNat]
  by_cases h0 : i = 0
  · subst h0; cases hx : x.getLsbD 0 <;> simp
  · have h1 : (1#32).getLsbD i = false := by rw [BitVec.getLsbD_ofNat, testBit1 i h0]; simp
    rw [testBit1 i h0]
    cases hx : x.getLsbD 0
    · simp
    · simp only [Bool.and_false, if_true]; exact h1.symm
theorem and1 (x : BitVec 32) : bits .and .u32 (x.toNat : Int) 1 = if x.getLsbD 0 then 1 else 0 := by
  have h := g_and_n x 1 (by omega)
  rw [show ((1 : Int)) = ((1 : Nat) : Int) from rfl, h, and_one]
  cases x.getLsbD 0 <;> rfl

/-! ### the checksum -/
def poly : BitVec 32 := 0xEDB88320#32
def step (c : BitVec 32) : BitVec 32 := if c.getLsbD 0 then c >>> 1 ^^^ poly else c >>> 1
def down (c : BitVec 32) : BitVec 32 := if c.getLsbD 31 then (c ^^^ poly) <<< 1 ||| 1#32 else c <<< 1
def up : Nat → BitVec 32 → BitVec 32
  | 0, c => c
  | n + 1, c => up n (step c)
def dn : Nat → BitVec 32 → BitVec 32
  | 0, c => c
  | n + 1, c => dn n (down c)
/-- a byte as a word -/
def ext (b : UInt8) : BitVec 32 := BitVec.ofNat 32 b.toNat
def upd (c : BitVec 32) (b : UInt8) : BitVec 32 := up 8 (c ^^^ ext b)
def run (c : BitVec 32) (l : List UInt8) : BitVec 32 := l.foldl upd c
def bk (c : BitVec 32) (l : List UInt8) : BitVec 32 := l.foldr (fun b c => dn 8 c ^^^ ext b) c
/-- 'not' and 'xor' of words, under names that simp leaves alone -/
def nt (c : BitVec 32) : BitVec 32 := ~~~ c
def xr (a b : BitVec 32) : BitVec 32 := a ^^^ b
def add (c : BitVec 32) (l : List UInt8) : BitVec 32 := nt (run (nt c) l)
def back (c : BitVec 32) (l : List UInt8) : BitVec 32 := nt (bk (nt c) l)
def crc (l : List UInt8) : BitVec 32 := add 0#32 l
def tab (i : Nat) : BitVec 32 := up 8 (BitVec.ofNat 32 i)

theorem step_xor (a b : BitVec 32) : step (a ^^^ b) = step a ^^^ step b := by
  unfold step
  rw [BitVec.getLsbD_xor, BitVec.ushiftRight_xor_distrib]
  cases a.getLsbD 0 <;> cases b.getLsbD 0 <;> simp
  · ac_rfl
  · ac_rfl
  · rw [show a >>> 1 ^^^ poly ^^^ (b >>> 1 ^^^ poly) = a >>> 1 ^^^ b >>> 1 ^^^ (poly ^^^ poly) from by ac_rfl]
    simp
theorem step_zero : step 0#32 = 0#32 := by decide
theorem up_xor (n : Nat) : ∀ a b, up n (a ^^^ b) = up n a ^^^ up n b := by
  induction n with
  | zero => intro a b; rfl
  | succ n ih => intro a b; show up n (step (a ^^^ b)) = up n (step a) ^^^ up n (step b); rw [step_xor, ih]
theorem up_zero (n : Nat) : up n 0#32 = 0#32 := by
  induction n with
  | zero => rfl
  | succ n ih => show up n (step 0#32) = _; rw [step_zero, ih]
theorem up_add (m : Nat) : ∀ n c, up (m + n) c = up n (up m c) := by
  induction m with
  | zero => intro n c; rw [Nat.zero_add]; rfl
  | succ m ih => intro n c; rw [Nat.add_right_comm]; show up (m + n) (step c) = up n (up m (step c)); rw [ih]
theorem dn_add (m : Nat) : ∀ n c, dn (m + n) c = dn n (dn m c) := by
  induction m with
  | zero => intro n c; rw [Nat.zero_add]; rfl
  | succ m ih => intro n c; rw [Nat.add_right_comm]; show dn (m + n) (down c) = dn n (dn m (down c)); rw [ih]

theorem poly31 : poly.getLsbD 31 = true := by decide
theorem down_step (c : BitVec 32) : down (step c) = c := by
  unfold step down
  have h31 : (c >>> 1).getLsbD 31 = false := by rw [BitVec.getLsbD_ushiftRight]; exact BitVec.getLsbD_of_ge _ _ (by omega)
  have hb : ∀ v : BitVec 32, (∀ i, i < 32 → v.getLsbD i = c.getLsbD i) → v = c := fun v h => BitVec.eq_of_getLsbD_eq fun i hi => h i hi
  cases h0 : c.getLsbD 0
  · simp only [Bool.false_eq_true, if_false]
    rw [h31]
    simp only [Bool.false_eq_true, if_false]
    apply hb
    intro i hi
    rw [BitVec.getLsbD_shiftLeft, BitVec.getLsbD_ushiftRight]
    by_cases hi0 : i = 0
    · subst hi0; rw [h0]; simp
    · have e : 1 + (i - 1) = i := by omega
      rw [e]; simp [hi, show ¬ i < 1 by omega]
  · simp only [if_true]
    rw [BitVec.getLsbD_xor, h31, poly31]
    simp only [Bool.false_xor, if_true]
    rw [show c >>> 1 ^^^ poly ^^^ poly = c >>> 1 from by rw [BitVec.xor_assoc, BitVec.xor_self, BitVec.xor_zero]]
    apply hb
    intro i hi
    rw [BitVec.getLsbD_or, BitVec.getLsbD_shiftLeft, BitVec.getLsbD_ushiftRight]
    by_cases hi0 : i = 0
    · subst hi0; simp [h0]
    · have e : 1 + (i - 1) = i := by omega
      rw [e, BitVec.getLsbD_ofNat, testBit1 i hi0]; simp [hi, show ¬ i < 1 by omega]
theorem step_down (c : BitVec 32) : step (down c) = c := by
  unfold step down
  cases h : c.getLsbD 31
  · simp only [Bool.false_eq_true, if_false]
    have h0 : (c <<< 1).getLsbD 0 = false := by rw [BitVec.getLsbD_shiftLeft]; simp
    rw [h0]
    simp only [Bool.false_eq_true, if_false]
    apply BitVec.eq_of_getLsbD_eq
    intro i hi
    rw [BitVec.getLsbD_ushiftRight, BitVec.getLsbD_shiftLeft]
    by_cases hi1 : i = 31
    · subst hi1; rw [h]; simp
    · simp [show 1 + i < 32 by omega, show ¬ 1 + i < 1 by omega]
  · simp only [if_true]
    have h0 : ((c ^^^ poly) <<< 1 ||| 1#32).getLsbD 0 = true := by rw [BitVec.getLsbD_or, BitVec.getLsbD_ofNat]; simp
    rw [h0]
    simp only [if_true]
    have e : ((c ^^^ poly) <<< 1 ||| 1#32) >>> 1 = c ^^^ poly := by
      apply BitVec.eq_of_getLsbD_eq
      intro i hi
      rw [BitVec.getLsbD_ushiftRight, BitVec.getLsbD_or, BitVec.getLsbD_shiftLeft, BitVec.getLsbD_ofNat, testBit1 (1 + i) (by omega)]
      by_cases hi1 : i = 31
      · subst hi1; rw [BitVec.getLsbD_xor, h, poly31]; rfl
      · simp [show 1 + i < 32 by omega, show ¬ 1 + i < 1 by omega]
    rw [e, BitVec.xor_assoc, BitVec.xor_self, BitVec.xor_zero]
theorem dn_up (n : Nat) : ∀ c, dn n (up n c) = c := by
  induction n with
  | zero => intro c; rfl
  | succ n ih =>
    intro c
    rw [show up (n + 1) c = up 1 (up n c) from by rw [← up_add]]
    show dn n (down (step (up n c))) = c
    rw [down_step, ih]
theorem up_dn (n : Nat) : ∀ c, up n (dn n c) = c := by
  induction n with
  | zero => intro c; rfl
  | succ n ih =>
    intro c
    rw [show dn (n + 1) c = dn 1 (dn n c) from by rw [← dn_add]]
    show up n (step (down (dn n c))) = c
    rw [step_down, ih]
theorem up_inj (n : Nat) {a b : BitVec 32} (h : up n a = up n b) : a = b := by rw [← dn_up n a, h, dn_up]

theorem run_nil (c : BitVec 32) : run c [] = c := rfl
theorem run_append (c : BitVec 32) (l m : List UInt8) : run c (l ++ m) = run (run c l) m := by unfold run; rw [List.foldl_append]
theorem bk_append (c : BitVec 32) (l m : List UInt8) : bk c (l ++ m) = bk (bk c m) l := by unfold bk; rw [List.foldr_append]
theorem xor_xor_cancel (a b : BitVec 32) : a ^^^ b ^^^ b = a := by rw [BitVec.xor_assoc, BitVec.xor_self, BitVec.xor_zero]
theorem nt_nt (a : BitVec 32) : nt (nt a) = a := by unfold nt; simp
theorem bk_run (l : List UInt8) : ∀ c, bk (run c l) l = c := by
  induction l with
  | nil => intro c; rfl
  | cons b l ih =>
    intro c
    show dn 8 (bk (run (upd c b) l) l) ^^^ ext b = c
    rw [ih, upd, dn_up, xor_xor_cancel]
theorem run_bk (l : List UInt8) : ∀ c, run (bk c l) l = c := by
  induction l with
  | nil => intro c; rfl
  | cons b l ih =>
    intro c
    show run (upd (dn 8 (bk c l) ^^^ ext b) b) l = c
    rw [upd, xor_xor_cancel, up_dn, ih]

end Go.Proofs.Ytkgcjelipllpdaa
