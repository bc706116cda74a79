import Derived.Test.YtaonjbkkgeiniaaGreatDoorB1
import Derived.Test.YtaonjbkkgeiniaaGreatDoorB2
import Derived.Deep.RegionWith
import Derived.BigRegion
import Derived.BigQuiet
import Derived.Deep.QuietTactic
import Derived.Outline
import Derived.IntWalk
import Derived.Test.YtaonjbkkgeiniaaGreatDoorB3
import Derived.Deep.DeepCutAuto
import Derived.WalkSmall
import Derived.Laws.AppendOwnNone
import Derived.OpenShut
import Derived.Deep.RegionHeld3
/- Walks over the reference soukref01: shift, over, Add, Of, for a seat without the Crc laws. -/
namespace Go.Proofs.YtaonjbkkgeiniaaGreatDoor
open Go.RowKit

/-- the pattern's first i bits -/
def lowTo (p : BitVec 32) : Nat → BitVec 32
  | 0 => 0#32
  | i + 1 => if p.getLsbD i then lowTo p i ^^^ 1#32 <<< i else lowTo p i

theorem shl_up1 (k : Nat) : k < 32 → up k (1#32 <<< k) = 1#32 := by
  intro h
  have : ∀ k, k < 32 → up k (1#32 <<< k) = 1#32 := by decide +kernel
  exact this k h
theorem low_bit (p : BitVec 32) : ∀ i j, i ≤ 32 → j < 32 → (lowTo p i).getLsbD j = (decide (j < i) && p.getLsbD j) := by
  intro i
  induction i with
  | zero => intro j _ _; show (0#32).getLsbD j = _; simp
  | succ i ih =>
    intro j hi hj
    have ih' := ih j (by omega) hj
    have h1 : (1#32 <<< i).getLsbD j = decide (j = i) := by
      rw [BitVec.getLsbD_shiftLeft, BitVec.getLsbD_ofNat]
      rcases Nat.lt_trichotomy j i with h | h | h
      · simp [h, Nat.ne_of_lt h]
      · subst h; simp [hj]
      · rw [testBit1 (j - i) (by omega)]; simp [show ¬ j = i by omega]
    unfold lowTo
    cases hp : p.getLsbD i
    · simp only [Bool.false_eq_true, if_false]
      rw [ih']
      by_cases hji : j = i
      · subst hji; simp [hp]
      · simp [show (j < i) = (j < i + 1) from by simp; omega]
    · simp only [if_true]
      rw [BitVec.getLsbD_xor, ih', h1]
      by_cases hji : j = i
      · subst hji; simp [hp]
      · simp [hji, show (j < i) = (j < i + 1) from by simp; omega]
theorem ext_bit (b : UInt8) (i : Nat) (h : 8 ≤ i) : (ext b).getLsbD i = false := by
  unfold ext
  rw [BitVec.getLsbD_ofNat, Nat.testBit_lt_two_pow (Nat.lt_of_lt_of_le (b8lt b) (Nat.pow_le_pow_right (n := 2) (by omega) h))]
  simp
def bitw (v : Bool) : BitVec 32 := if v then 1#32 else 0#32
def sh (c : BitVec 32) (v : Bool) : BitVec 32 := if c.getLsbD 0 != v then c >>> 1 ^^^ poly else c >>> 1
def bit (b : UInt8) (i : Nat) : Bool := (ext b).getLsbD i
def ovTo (c : BitVec 32) (b : UInt8) : Nat → BitVec 32
  | 0 => c
  | i + 1 => sh (ovTo c b i) (bit b i)
theorem bitw_bit0 (v : Bool) : (bitw v).getLsbD 0 = v := by cases v <;> decide
theorem bitw_shr (v : Bool) : bitw v >>> 1 = 0#32 := by cases v <;> decide
theorem sh_step (c : BitVec 32) (v : Bool) : sh c v = step (c ^^^ bitw v) := by
  unfold sh step
  rw [BitVec.getLsbD_xor, bitw_bit0, BitVec.ushiftRight_xor_distrib, bitw_shr, BitVec.xor_zero]
theorem ovTo_eq (c : BitVec 32) (b : UInt8) : ∀ i, i ≤ 32 → ovTo c b i = up i (c ^^^ lowTo (ext b) i) := by
  intro i
  induction i with
  | zero => intro _; show c = c ^^^ 0#32; rw [BitVec.xor_zero]
  | succ i ih =>
    intro hi
    show sh (ovTo c b i) (bit b i) = _
    rw [ih (by omega), sh_step, up_succ]
    congr 1
    rw [show lowTo (ext b) (i + 1) = if (ext b).getLsbD i then lowTo (ext b) i ^^^ 1#32 <<< i else lowTo (ext b) i from rfl]
    unfold bitw bit
    cases (ext b).getLsbD i
    · simp
    · simp only [if_true]
      rw [← BitVec.xor_assoc, up_xor i _ (1#32 <<< i), shl_up1 i (by omega)]
theorem low_ext (b : UInt8) : lowTo (ext b) 8 = ext b := by
  apply BitVec.eq_of_getLsbD_eq
  intro j hj
  rw [low_bit _ 8 j (by omega) hj]
  by_cases h : j < 8
  · simp [h]
  · rw [ext_bit b j (by omega)]; simp
theorem ovTo_upd (c : BitVec 32) (b : UInt8) : ovTo c b 8 = upd c b := by
  rw [ovTo_eq c b 8 (by omega), low_ext]; rfl

theorem bit_at (p : BitVec 32) (i : Nat) : bits .and .u32 ((p.toNat : Int) / 2 ^ i) 1 = if p.getLsbD i then 1 else 0 := by
  have h := g_shr p i
  have e : ((2 ^ i : Nat) : Int) = (2 : Int) ^ i := by simp
  rw [e] at h
  rw [h, and1, BitVec.getLsbD_ushiftRight, Nat.add_zero]
theorem bitw_val (v : Bool) : ((bitw v).toNat : Int) = if v then 1 else 0 := by cases v <;> rfl
theorem and1_bitw (c : BitVec 32) : bits .and .u32 (c.toNat : Int) 1 = ((bitw (c.getLsbD 0)).toNat : Int) := by rw [and1, bitw_val]
theorem and1_ne (c : BitVec 32) (v : Bool) : (bits .and .u32 (c.toNat : Int) 1 != ((bitw v).toNat : Int)) = (c.getLsbD 0 != v) := by
  rw [and1_bitw]; cases c.getLsbD 0 <;> cases v <;> rfl

set_option maxHeartbeats 400000 in
theorem shift_any (c : BitVec 32) (v : Bool) (w : World) :
    Calls Tryz.prog 123 #[.int .u32 c.toNat, .int .u32 (bitw v).toNat] w fun e w' => e = .returned (.int .u32 (sh c v).toNat) ∧ w = w' := by
  have h := and1_ne c v
  cases hb : (c.getLsbD 0 != v)
  · rw [hb] at h
    go_enter Tryz.func123, Tryz.ntmps123
    go_wp2
    go_ret
    exact ⟨ret_int (by rw [shr1]; unfold sh; rw [hb]; rfl), rfl⟩
  · rw [hb] at h
    go_enter Tryz.func123, Tryz.ntmps123
    go_wp2
    go_ret
    exact ⟨ret_int (by rw [xor_poly]; unfold sh; rw [hb]; rfl), rfl⟩

theorem bit_u8 (b : UInt8) (i : Nat) : bits .and .u32 ((b.toNat : Int) / 2 ^ i) 1 = ((bitw (bit b i)).toNat : Int) := by
  have h := bit_at (ext b) i
  rw [ext_lt] at h
  rw [h, bitw_val]; rfl

set_option maxHeartbeats 400000 in
theorem over_any (c : BitVec 32) (b : UInt8) (w : World) :
    Calls Tryz.prog 102 #[.int .u32 c.toNat, .int .u8 b.toNat] w fun e w' => e = .returned (.int .u32 (upd c b).toNat) ∧ w = w' := by
  have hb8 := b8lt b
  go_enter Tryz.func102, Tryz.ntmps102
  go_wp2_with fail
  go_loop [0, 5] (fun x y => ∃ i : Nat, i ≤ 8 ∧ y = .int .i64 i ∧ x = .int .u32 (ovTo c b i).toNat) (fun _ y => 8 - (intOf y).toNat)
  case atStart => exact ⟨0, by omega, rfl, rfl⟩
  case round =>
    obtain ⟨i, hi, rfl, rfl⟩ := hrel
    by_cases h8 : i < 8
    · have hbit := bit_u8 b i
      go_wp2_with (go_at_call 123; (with_reducible refine (shift_any _ _ _).mono ?_); rintro e w' ⟨rfl, rfl⟩)
      go_round
      case rel => exact ⟨i + 1, by omega, by go_num, rfl⟩
      case measure => simp [intOf]; omega
    · obtain rfl : i = 8 := by omega
      go_wp2_with fail
      go_ret
      exact ⟨ret_int (by rw [ovTo_upd]), rfl⟩

set_option maxHeartbeats 400000 in
theorem radd_str (c : BitVec 32) (s : ByteArray) (w : World) (hs : s.size ≤ 1000000000) :
    Calls Tryz.prog 83 #[.int .u32 c.toNat, .string s] w fun e w' => e = .returned (.int .u32 (add c s.data.toList).toNat) ∧ w = w' := by
  go_enter Tryz.func83, Tryz.ntmps83
  go_wp2_with fail
  go_loop [0, 5] (fun x y => ∃ k : Nat, k ≤ s.size ∧ y = .int .i64 k ∧ x = .int .u32 (run (nt c) (s.data.toList.take k)).toNat) (fun _ y => s.size - (intOf y).toNat)
  case atStart => exact ⟨0, by omega, rfl, rfl⟩
  case round =>
    obtain ⟨k, hk, rfl, rfl⟩ := hrel
    by_cases hlt : k < s.size
    · have HS := Lib.hid (run_snoc (nt c) s k hlt)
      go_wp2_with (go_at_call 102; (with_reducible refine (over_any _ _ _).mono ?_); rintro e w' ⟨rfl, rfl⟩)
      go_round
      case rel => exact ⟨k + 1, by omega, by go_num, by rw [HS.out]⟩
      case measure => simp [intOf]; omega
    · go_wp2_with fail
      go_ret
      exact ⟨ret_int (by rw [List.take_of_length_le (by simp; omega)]; rfl), rfl⟩

set_option maxHeartbeats 400000 in
theorem rof_str (s : ByteArray) (w : World) (hs : s.size ≤ 1000000000) :
    Calls Tryz.prog 52 #[.string s] w fun e w' => e = .returned (.int .u32 (crc s.data.toList).toNat) ∧ w = w' := by
  go_enter Tryz.func52, Tryz.ntmps52
  go_wp2_with fail
  refine (radd_str 0#32 _ _ hs).mono ?_
  rintro e w1 ⟨rfl, rfl⟩
  go_wp2_with fail
  go_ret
  exact ⟨rfl, rfl⟩


end Go.Proofs.YtaonjbkkgeiniaaGreatDoor

/- Walks over the references soukref02 (Fixed, Low, Reader.Fixed) and soukref10 (Make, number). -/
namespace Go.Proofs.YtaonjbkkgeiniaaGreatDoor
open Go.RowKit

/-- so many bytes of a number, the highest one first -/
def fixL : Nat → Nat → List UInt8
  | _, 0 => []
  | n, k + 1 => fixL (n / 256) k ++ [UInt8.ofNat n]
theorem fixL_len (k : Nat) : ∀ n, (fixL n k).length = k := by
  induction k with
  | zero => intro n; rfl
  | succ k ih => intro n; show (fixL (n / 256) k ++ _).length = _; rw [List.length_append, ih]; rfl
theorem fixL_be4 (n : Nat) : fixL n 4 = be4 n := by
  unfold fixL fixL fixL fixL fixL be4 byt64
  simp only [Nat.div_div_eq_div_mul, List.nil_append, List.cons_append, Nat.pow_succ, Nat.pow_zero, Nat.div_one, Nat.one_mul]
theorem fixL_be8 (n : Nat) : fixL n 8 = be8 n := by
  unfold fixL fixL fixL fixL fixL fixL fixL fixL fixL be8 byt64
  simp only [Nat.div_div_eq_div_mul, List.nil_append, List.cons_append, Nat.pow_succ, Nat.pow_zero, Nat.div_one, Nat.one_mul]
theorem bts_one (n : Nat) : bts [UInt8.ofNat n] = #[.int .u8 ((n : Int) % 256)] := by
  unfold bts
  show #[Value.int .u8 ((UInt8.ofNat n).toNat : Int)] = _
  rw [UInt8.toNat_ofNat', Int.natCast_emod]; rfl

theorem cell_kept1 {w w1 : World} {v : Value} {t : TypeId} (hb : Below (w.alloc (.cells #[v] t)).drew.heap.size (w.alloc (.cells #[v] t)).drew w1) : w1.cell? ⟨w.heap.size, 0, none⟩ = some v := by
  rw [hb.cell (p := ⟨w.heap.size, 0, none⟩) (by show w.heap.size < (w.alloc (.cells #[v] t)).heap.size; rw [World.size_alloc]; omega)]
  show (w.alloc (.cells #[v] t)).cell? ⟨w.heap.size, 0, none⟩ = _
  rw [World.cell?_alloc_new]; rfl
theorem cell_kept2 {w w1 : World} {v : Value} {t : TypeId} (hb : Below (w.drew.alloc (.cells #[v] t)).heap.size (w.drew.alloc (.cells #[v] t)) w1) : w1.cell? ⟨w.heap.size, 0, none⟩ = some v := cell_kept1 hb
theorem conv_one (n : Nat) (W : World) (h : Nat) (hc : W.cell? ⟨h, 0, none⟩ = some (.int .u8 ((n : Int) % 256))) :
    (convert 32 9 (.slice (some ⟨h, 0, none⟩) 1 1)).run Tryz.prog W = .ok (.string ⟨#[UInt8.ofNat n]⟩) W := by
  refine run_convert_bytes_back _ _ _ 5 _ _ [UInt8.ofNat n] Tryz.underlying32 Tryz.underlying5 Tryz.underlying9 ?_
  intro j hj
  obtain rfl : j = 0 := by simpa using hj
  have : (⟨h, 0, none⟩ : Addr).add 0 = ⟨h, 0, none⟩ := rfl
  rw [this, hc]
  show _ = some (Value.int .u8 ((UInt8.ofNat n).toNat : Int))
  rw [UInt8.toNat_ofNat', Int.natCast_emod]; rfl

set_option maxHeartbeats 1000000 in
theorem rfix_any (k : Nat) (hk : k ≤ 100) : ∀ (n : Nat) (w : World), n < 18446744073709551616 →
    Calls Tryz.prog 54 #[.int .u64 n, .int .i64 k] w fun e w' => e = .returned (.string (bs (fixL n k))) ∧ Below w.heap.size w w' := by
  induction k with
  | zero =>
    intro n w hn
    go_enter Tryz.func54, Tryz.ntmps54
    go_wp2_with fail
    go_ret
    exact ⟨rfl, Below.refl _ _⟩
  | succ k ih =>
    intro n w hn
    have IH := Lib.hid (fun w => ih (by omega) (n / 256) w (by omega))
    clear ih
    obtain ⟨y, ey⟩ : ∃ y : ByteArray, ⟨#[UInt8.ofNat n]⟩ = y := ⟨_, rfl⟩
    have hc : ∀ (W : World) (h : Nat), W.cell? ⟨h, 0, none⟩ = some (.int .u8 ((n : Int) % 256)) → (convert 32 9 (.slice (some ⟨h, 0, none⟩) 1 1)).run Tryz.prog W = .ok (.string y) W := by rw [← ey]; exact conv_one n
    have hy : y.size = 1 := by rw [← ey]; rfl
    have hs : IntKind.i64.wrap (k : Int) = k := IntWalk.i64_in _ (by omega)
    have e1 : IntKind.u64.wrap ((n : Int) % 256) = (n : Int) % 256 := by rw [IntKind.wrap_u64]; omega
    have e2 : IntKind.u8.wrap ((n : Int) % 256) = (n : Int) % 256 := by rw [IntKind.wrap_u8]; omega
    have e3 : (n : Int).tmod 256 = (n : Int) % 256 := Int.tmod_eq_emod_of_nonneg (by omega)
    obtain ⟨m, em⟩ : ∃ m, n / 256 = m := ⟨_, rfl⟩
    have hq : IntKind.u64.wrap ((n : Int) / 256) = m := by rw [IntKind.wrap_u64]; omega
    rw [em] at IH
    have hd : decide ((k : Int) + 1 ≤ 0) = false := decide_eq_false (by omega)
    have hL : (bs (fixL m k)).size = k := by rw [size_bs, fixL_len]
    obtain ⟨x, ex⟩ : ∃ x, bs (fixL m k) = x := ⟨_, rfl⟩
    rw [ex] at hL IH
    have EX := Lib.hid ex
    have EM := Lib.hid em
    clear ex em
    have hcat : ¬ 9223372036854775807 < x.size + y.size := by omega
    have HL := Lib.hid hL
    have HY := Lib.hid hy
    have EY := Lib.hid ey
    clear hL hy ey
    go_enter Tryz.func54, Tryz.ntmps54
    go_wp2_with fail
    go_region_with ((go_at_call 54; with_reducible refine (IH.out _).mono ?_; rintro e w1 ⟨rfl, hb1⟩; (first | have hcell := cell_kept1 hb1 | have hcell := cell_kept2 hb1 | skip)))
    all_goals
      go_wp2_with fail
      go_ret
      refine ⟨?_, ?_⟩
      · have : bs (fixL n (k + 1)) = x ++ y := by rw [← EX.out, ← EY.out, ← EM.out]; exact ba_ext (by rw [bs_data, data_app, bs_data]; rfl)
        rw [this]
        rfl
      · first
        | exact bel_alloc (bel_undrew hb1) _
        | exact bel_trans (bel_alloc (Below.refl _ _) _) (bel_undrew hb1)

set_option maxHeartbeats 400000 in
theorem rlow_any (c : BitVec 32) (w : World) :
    Calls Tryz.prog 88 #[.int .u32 c.toNat] w fun e w' => e = .returned (.string (bs (four c))) ∧ Below w.heap.size w w' := by
  have hc := conv_bts (four c) 4 4 rfl w
  rw [bts_four] at hc
  have hl := b32lt c
  go_enter Tryz.func88, Tryz.ntmps88
  go_wp2_with fail
  go_ret
  exact ⟨rfl, (Below.refl _ _).alloc (Nat.le_refl _) _⟩

end Go.Proofs.YtaonjbkkgeiniaaGreatDoor

/- Walks over the references soukref02 (Reader.Fixed) and soukref10 (number, Read). -/
namespace Go.Proofs.YtaonjbkkgeiniaaGreatDoor
open Go.RowKit

/-- a reader of the reference -/
def rdr (s : ByteArray) (a : Nat) : Array Value := #[.string s, .int .i64 a, .int .i64 0, .int .i64 0]
theorem rdr_cells {w : World} {b a : Nat} {s : ByteArray} (h : w.heap[b]? = some (.cells (rdr s a) 170)) :
    w.cell? ⟨b, 0, none⟩ = some (.string s) ∧ w.cell? ⟨b, 1, none⟩ = some (.int .i64 a) ∧ w.cell? ⟨b, 2, none⟩ = some (.int .i64 0) ∧ w.frozen? ⟨b, 1, none⟩ = false :=
  ⟨by rw [cell_of_row _ _ _ _ _ _ h]; rfl, by rw [cell_of_row _ _ _ _ _ _ h]; rfl, by rw [cell_of_row _ _ _ _ _ _ h]; rfl, frozen_of_row _ _ _ _ _ h⟩
theorem sl_succ (l : List UInt8) (a k : Nat) (h : a + k < l.length) : sl l a (k + 1) = sl l a k ++ [l[a + k]] := by
  unfold sl
  rw [List.take_succ_eq_append_getElem (by rw [List.length_drop]; omega), List.getElem_drop]

theorem num_next (s : ByteArray) (a j c N : Nat) (hc : a + j = c) (h : c < s.size) (h8 : j < 8) (hN : num (sl s.data.toList a j) = N) :
    IntKind.u64.wrap (IntKind.u64.wrap ((N : Int) * 256) + IntKind.u64.wrap (s[c].toNat : Int)) = ((num (sl s.data.toList a (j + 1)) : Nat) : Int) := by
  subst hc
  have h1 := num_lt (sl s.data.toList a j)
  have h2 : (sl s.data.toList a j).length ≤ 7 := Nat.le_trans (sl_len _ _ _) (by omega)
  have h3 : 256 ^ (sl s.data.toList a j).length ≤ 256 ^ 7 := Nat.pow_le_pow_right (by omega) h2
  have hb := b8lt s[a + j]
  rw [sl_succ s.data.toList a j h, num_snoc, hN]
  rw [hN] at h1
  have e : s.data.toList[a + j] = s[a + j] := rfl
  have q1 : IntKind.u64.wrap ((N : Int) * 256) = (N : Int) * 256 := IntWalk.u64_in _ (by omega)
  have q2 : IntKind.u64.wrap (s[a + j].toNat : Int) = (s[a + j].toNat : Int) := IntWalk.u64_in _ (by omega)
  rw [e, q1, q2, IntWalk.u64_in _ (by omega)]
  omega

set_option maxHeartbeats 1000000 in
theorem rdfix_any (s : ByteArray) (a k : Nat) (b : Nat) (w : World) (hs : s.size ≤ 1000000) (hk : k ≤ 8) (ha : a + k ≤ s.size) (hb : w.heap[b]? = some (.cells (rdr s a) 170)) :
    Calls Tryz.prog 131 #[.pointer (some ⟨b, 0, none⟩), .int .i64 k] w fun e w' => e = .returned (.int .u64 (num (sl s.data.toList a k))) ∧ Below b w w' ∧ w.heap.size ≤ w'.heap.size := by
  obtain ⟨c0, c1, c2, f1⟩ := rdr_cells hb
  have hbz : b < w.heap.size := (Array.getElem?_eq_some_iff.1 hb).1
  have d1 : decide ((s.size : Int) - (a : Int) < (k : Int)) = false := decide_eq_false (by omega)
  have hw : IntKind.i64.wrap ((s.size : Int) - (a : Int)) = (s.size : Int) - (a : Int) := IntWalk.i64_in _ (by omega)
  clear hb
  go_enter Tryz.func131, Tryz.ntmps131
  go_wp2_with fail
  go_quiet (fail)
  go_wp2_with fail
  go_loopw [5, 6] (fun n i W => ∃ j : Nat, j ≤ k ∧ i = .int .i64 j ∧ n = .int .u64 (num (sl s.data.toList a j)) ∧ Below w.heap.size w W) (fun _ i _ => k - (intOf i).toNat)
  case atStart => exact ⟨0, Nat.zero_le _, rfl, rfl, below_drewN (Below.refl _ _) _⟩
  case round =>
    obtain ⟨j, hj, rfl, rfl, hbl⟩ := hrel
    have HB := Lib.hid hbl
    have e0 := (hbl.cell (p := ⟨b, 0, none⟩) hbz).trans c0
    have e1 := (hbl.cell (p := ⟨b, 1, none⟩) hbz).trans c1
    have g1 := (hbl.frozen (p := ⟨b, 1, none⟩) hbz).trans f1
    clear hbl
    by_cases hlt : j < k
    · have HC := Lib.hid c0
      have hd : decide ((j : Int) < (k : Int)) = true := decide_eq_true (by omega)
      obtain ⟨c, ec⟩ : ∃ c, a + j = c := ⟨_, rfl⟩
      have hs1 : IntKind.i64.wrap ((a : Int) + (j : Int)) = (c : Int) := by rw [IntWalk.i64_in _ (by omega)]; omega
      have hlt2 : c < s.size := by omega
      have hlt3 : (c : Int) < (s.size : Int) := by omega
      have hlt4 : (0 : Int) ≤ (c : Int) := by omega
      have EC := Lib.hid ec
      clear ec
      clear c0 c1 f1
      obtain ⟨N, eN⟩ : ∃ N, num (sl s.data.toList a j) = N := ⟨_, rfl⟩
      rw [eN]
      have EN := Lib.hid eN
      clear eN
      go_wp2_with fail
      go_quiet (fail)
      go_wp2_with fail
      go_roundw
      case rel =>
        refine ⟨j + 1, by omega, by go_num, ?_, below_drewN HB.out _⟩
        exact val_int (num_next s a j c N EC.out hlt2 (by omega) EN.out)
      case measure => simp [intOf]; omega
    · obtain rfl : j = k := by omega
      go_wp2_with fail
      go_ret
      have hbz2 := HB.out.size
      exact ⟨rfl, (show Below b w wr from HB.out.mono (by omega)).setCell (p := ⟨b, 1, none⟩) (Nat.le_refl _) _, by simpa using hbz2⟩

set_option maxHeartbeats 400000 in
theorem number_any (s : ByteArray) (a k : Nat) (w : World) (hs : s.size ≤ 1000000) (hk : k ≤ 8) (ha : a + k ≤ s.size) :
    Calls Tryz.prog 106 #[.string s, .int .i64 a, .int .i64 k] w fun e w' => e = .returned (.int .u64 (num (sl s.data.toList a k))) ∧ Below w.heap.size w w' := by
  have hc := Lib.hid (rdfix_any s a k w.heap.size (w.alloc (.cells (rdr s a) 170)) hs hk ha (heap_alloc_new _ _))
  go_enter Tryz.func106, Tryz.ntmps106
  go_wp2_with fail
  refine hc.out.mono ?_
  rintro e w' ⟨rfl, hb, hz⟩
  go_wp2_with fail
  go_ret
  exact ⟨rfl, ((Below.refl _ _).alloc (Nat.le_refl _) _).trans hb⟩

end Go.Proofs.YtaonjbkkgeiniaaGreatDoor

/- The walk over soukref10.Read (printed by gen_rread.py). -/
namespace Go.Proofs.YtaonjbkkgeiniaaGreatDoor
open Go.RowKit

theorem number_to (s : ByteArray) (p k : Nat) (a m : Int) (hp : (p : Int) = a) (hm : (k : Int) = m) (w : World) (hs : s.size ≤ 1000000) (hk : k ≤ 8) (ha : p + k ≤ s.size) (n : Nat) (hn : num (sl s.data.toList p k) = n) :
    Calls Tryz.prog 106 #[.string s, .int .i64 a, .int .i64 m] w fun e w' => e = .returned (.int .u64 n) ∧ Below w.heap.size w w' := by
  subst hp hm hn; exact number_any s p k w hs hk ha
theorem rfr_size : (Tryz.prog.info? 95).map (·.size) = some 3 := by kernel_rfl
theorem results_rframe (tmps : Array Value) (w : World) (g q : Nat) (p : ByteArray) (at_ : Int) (u v : Value) (hp : tmps.getD 4 undef = .pointer (some ⟨g, 0, none⟩)) (hg : w.heap[g]? = some (.cells (frCells q p at_) 95))
    (hu : tmps.getD 5 undef = u) (hv : tmps.getD 6 undef = v) :
    (results Tryz.f86 tmps).run Tryz.prog w = .ok (.tuple #[frV q p at_, u, v]) w := by
  have hp' : tmps[4]?.getD undef = .pointer (some ⟨g, 0, none⟩) := by simpa using hp
  subst hu hv
  simp [results, hp', asAddr, run_loadVar_row w g 95 95 (frCells q p at_) (0, 0) _ hg Tryz.underlying95 rfl (by exact rfr_size), frV]
theorem rfr_stored {w : World} {g q0 q : Nat} {p0 p : ByteArray} {a0 a : Int} (h : w.heap[g]? = some (.cells (frCells q0 p0 a0) 95)) :
    (((w.setCell ⟨g, 0, none⟩ (.int .i64 q)).setCell ⟨g, 1, none⟩ (.string p)).setCell ⟨g, 2, none⟩ (.int .i64 a)).heap[g]? = some (.cells (frCells q p a) 95) := by
  have k0 := heap_setCell_same _ _ 0 _ _ (.int .i64 q) h
  have k1 := heap_setCell_same _ _ 1 _ _ (.string p) k0
  exact heap_setCell_same _ _ 2 _ _ (.int .i64 a) k1
theorem rfr_cells {w : World} {g q0 : Nat} {p0 : ByteArray} {a0 : Int} (h : w.heap[g]? = some (.cells (frCells q0 p0 a0) 95)) :
    w.cell? ⟨g, 0, none⟩ = some (.int .i64 q0) ∧ w.cell? ⟨g, 1, none⟩ = some (.string p0) ∧ w.cell? ⟨g, 2, none⟩ = some (.int .i64 a0) ∧ w.frozen? ⟨g, 0, none⟩ = false ∧ w.frozen? ⟨g, 1, none⟩ = false ∧ w.frozen? ⟨g, 2, none⟩ = false :=
  ⟨by rw [cell_of_row _ _ _ _ _ _ h]; rfl, by rw [cell_of_row _ _ _ _ _ _ h]; rfl, by rw [cell_of_row _ _ _ _ _ _ h]; rfl, frozen_of_row _ _ _ _ _ h, frozen_of_row _ _ _ _ _ h, frozen_of_row _ _ _ _ _ h⟩

theorem of_r (s : ByteArray) (c : BitVec 32) (w : World) (hs : s.size ≤ 1000000000) (h : crc s.data.toList = c) :
    Calls Tryz.prog 52 #[.string s] w fun e w' => e = .returned (.int .u32 c.toNat) ∧ w = w' := by
  subst h; exact rof_str s w hs
theorem low_r (c : BitVec 32) (t : ByteArray) (w : World) (h : bs (four c) = t) :
    Calls Tryz.prog 88 #[.int .u32 c.toNat] w fun e w' => e = .returned (.string t) ∧ Below w.heap.size w w' := by
  subst h; exact rlow_any c w
theorem sum_iff (l : List UInt8) (a : Nat) (h : a + 16 ≤ l.length) : fSum l a ↔ sl l (a + 12) 4 = four (crc (sl l a 12 ++ sl l (a + 16) (fN l a))) := by
  have h4 := sl_length l (a + 12) 4 (by omega)
  unfold fSum
  constructor
  · intro e; rw [e, four_low _ h4]
  · intro e; rw [e, low_four]

set_option maxHeartbeats 1000000 in
theorem rread_arg (s : ByteArray) (at_ : Int) (w : World) (h : at_ < 0 ∨ (s.size : Int) < at_) :
    Calls Tryz.prog 86 #[.string s, .int .i64 at_] w
      fun e w' => e = .returned (.tuple #[frV 0 ⟨#[]⟩ 0, .int .i64 0, .int .i64 1]) ∧ Below w.heap.size w w' := by
  by_cases h1 : at_ < 0
  · have d1 : decide (at_ < 0) = true := decide_eq_true h1
    go_enter Tryz.func86, Tryz.ntmps86
    go_wp2_with fail
    refine bodyPost_ret_by (results_rframe _ _ w.heap.size 0 ⟨#[]⟩ 0 (.int .i64 0) (.int .i64 1) rfl (heap_alloc_new _ _) rfl rfl) rfl ⟨rfl, (Below.refl _ _).alloc (Nat.le_refl _) _⟩
  · have d1 : decide (at_ < 0) = false := decide_eq_false h1
    have d2 : decide ((s.size : Int) < at_) = true := decide_eq_true (by omega)
    go_enter Tryz.func86, Tryz.ntmps86
    go_wp2_with fail
    refine bodyPost_ret_by (results_rframe _ _ w.heap.size 0 ⟨#[]⟩ 0 (.int .i64 0) (.int .i64 1) rfl (heap_alloc_new _ _) rfl rfl) rfl ⟨rfl, (Below.refl _ _).alloc (Nat.le_refl _) _⟩

set_option maxHeartbeats 1000000 in
theorem rread_short (s : ByteArray) (a : Nat) (w : World) (ha : a ≤ s.size) (h : s.size < a + 16) :
    Calls Tryz.prog 86 #[.string s, .int .i64 a] w
      fun e w' => e = .returned (.tuple #[frV 0 ⟨#[]⟩ 0, .int .i64 0, .int .i64 8]) ∧ Below w.heap.size w w' := by
  have d1 : decide ((a : Int) < 0) = false := decide_eq_false (by omega)
  have d2 : decide (s.size < a) = false := decide_eq_false (by omega)
  have d3 : decide ((s.size : Int) - (a : Int) < 16) = true := decide_eq_true (by omega)
  go_enter Tryz.func86, Tryz.ntmps86
  go_wp2_with fail
  refine bodyPost_ret_by (results_rframe _ _ w.heap.size 0 ⟨#[]⟩ 0 (.int .i64 0) (.int .i64 8) rfl (heap_alloc_new _ _) rfl rfl) rfl ⟨rfl, (Below.refl _ _).alloc (Nat.le_refl _) _⟩

set_option maxHeartbeats 2000000 in
theorem rread_zero (s : ByteArray) (a : Nat) (w : World) (hs : s.size ≤ 1000000) (ha : a + 16 ≤ s.size) (h : fN s.data.toList a < 1) :
    Calls Tryz.prog 86 #[.string s, .int .i64 a] w
      fun e w' => e = .returned (.tuple #[frV 0 ⟨#[]⟩ 0, .int .i64 0, .int .i64 4]) ∧ Below w.heap.size w w' := by
  have d1 : decide ((a : Int) < 0) = false := decide_eq_false (by omega)
  have d2 : decide (s.size < a) = false := decide_eq_false (by omega)
  have d3 : decide ((s.size : Int) - (a : Int) < 16) = false := decide_eq_false (by omega)
  obtain ⟨n, en⟩ : ∃ n, fN s.data.toList a = n := ⟨_, rfl⟩
  obtain ⟨q, eq⟩ : ∃ q, fQ s.data.toList a = q := ⟨_, rfl⟩
  have K1 := Lib.hid (fun w => number_to s a 4 (a : Int) 4 rfl rfl w hs (by omega) (by omega) n en)
  have K2 := Lib.hid (fun w => number_to s (a + 4) 8 ((a : Int) + 4) 8 (by omega) rfl w hs (by omega) (by omega) q eq)
  have d4 : decide ((n : Int) < 1) = true := decide_eq_true (by omega)
  have EN := Lib.hid en
  have EQ := Lib.hid eq
  clear en eq
  go_enter Tryz.func86, Tryz.ntmps86
  go_wp2_with fail
  obtain ⟨w0, ew0⟩ : ∃ z, w.alloc (.cells #[.int .i64 0, .string ⟨#[]⟩, .int .i64 0] 95) = z := ⟨_, rfl⟩
  have hr0 : w0.heap[w.heap.size]? = some (.cells (frCells 0 ⟨#[]⟩ 0) 95) := by rw [← ew0]; exact heap_alloc_new _ _
  have hz0 : w0.heap.size = w.heap.size + 1 := by rw [← ew0]; simp
  have hb0 : Below w.heap.size w w0 := by rw [← ew0]; exact (Below.refl _ _).alloc (Nat.le_refl _) _
  rw [ew0]
  clear ew0
  with_reducible refine (K1.out _).mono ?_
  rintro e w1 ⟨rfl, hb1⟩
  have HB1 := Lib.hid (hb0.trans (hb1.mono (by omega)))
  have HR1 := Lib.hid ((hb1.block w.heap.size (by omega)).trans hr0)
  have hz1 : w.heap.size < w1.heap.size := by have := hb1.size; omega
  clear hb0 hr0 hb1 hz0
  go_wp2_with fail
  with_reducible refine (K2.out _).mono ?_
  rintro e w2 ⟨rfl, hb2⟩
  have HB2 := Lib.hid (HB1.out.trans (hb2.mono (by omega)))
  have hr2 := (hb2.block w.heap.size (by omega)).trans HR1.out
  have HR2 := Lib.hid hr2
  obtain ⟨k0, k1, k2, l0, l1, l2⟩ := rfr_cells hr2
  clear HB1 HR1 hb2 hr2
  go_wp2_with fail
  refine bodyPost_ret_by (results_rframe _ _ w.heap.size 0 ⟨#[]⟩ 0 (.int .i64 0) (.int .i64 4) rfl (rfr_stored HR2.out) rfl rfl) rfl ⟨rfl, fr_below HB2.out _ _ _⟩

set_option maxHeartbeats 2000000 in
theorem rread_big (s : ByteArray) (a : Nat) (w : World) (hs : s.size ≤ 1000000) (ha : a + 16 ≤ s.size) (h : 4096 < fN s.data.toList a) :
    Calls Tryz.prog 86 #[.string s, .int .i64 a] w
      fun e w' => e = .returned (.tuple #[frV 0 ⟨#[]⟩ 0, .int .i64 0, .int .i64 4]) ∧ Below w.heap.size w w' := by
  have d1 : decide ((a : Int) < 0) = false := decide_eq_false (by omega)
  have d2 : decide (s.size < a) = false := decide_eq_false (by omega)
  have d3 : decide ((s.size : Int) - (a : Int) < 16) = false := decide_eq_false (by omega)
  obtain ⟨n, en⟩ : ∃ n, fN s.data.toList a = n := ⟨_, rfl⟩
  obtain ⟨q, eq⟩ : ∃ q, fQ s.data.toList a = q := ⟨_, rfl⟩
  have K1 := Lib.hid (fun w => number_to s a 4 (a : Int) 4 rfl rfl w hs (by omega) (by omega) n en)
  have K2 := Lib.hid (fun w => number_to s (a + 4) 8 ((a : Int) + 4) 8 (by omega) rfl w hs (by omega) (by omega) q eq)
  have d4 : decide ((n : Int) < 1) = false := decide_eq_false (by omega)
  have d5 : decide ((4096 : Int) < (n : Int)) = true := decide_eq_true (by omega)
  have EN := Lib.hid en
  have EQ := Lib.hid eq
  clear en eq
  go_enter Tryz.func86, Tryz.ntmps86
  go_wp2_with fail
  obtain ⟨w0, ew0⟩ : ∃ z, w.alloc (.cells #[.int .i64 0, .string ⟨#[]⟩, .int .i64 0] 95) = z := ⟨_, rfl⟩
  have hr0 : w0.heap[w.heap.size]? = some (.cells (frCells 0 ⟨#[]⟩ 0) 95) := by rw [← ew0]; exact heap_alloc_new _ _
  have hz0 : w0.heap.size = w.heap.size + 1 := by rw [← ew0]; simp
  have hb0 : Below w.heap.size w w0 := by rw [← ew0]; exact (Below.refl _ _).alloc (Nat.le_refl _) _
  rw [ew0]
  clear ew0
  with_reducible refine (K1.out _).mono ?_
  rintro e w1 ⟨rfl, hb1⟩
  have HB1 := Lib.hid (hb0.trans (hb1.mono (by omega)))
  have HR1 := Lib.hid ((hb1.block w.heap.size (by omega)).trans hr0)
  have hz1 : w.heap.size < w1.heap.size := by have := hb1.size; omega
  clear hb0 hr0 hb1 hz0
  go_wp2_with fail
  with_reducible refine (K2.out _).mono ?_
  rintro e w2 ⟨rfl, hb2⟩
  have HB2 := Lib.hid (HB1.out.trans (hb2.mono (by omega)))
  have hr2 := (hb2.block w.heap.size (by omega)).trans HR1.out
  have HR2 := Lib.hid hr2
  obtain ⟨k0, k1, k2, l0, l1, l2⟩ := rfr_cells hr2
  clear HB1 HR1 hb2 hr2
  go_wp2_with fail
  refine bodyPost_ret_by (results_rframe _ _ w.heap.size 0 ⟨#[]⟩ 0 (.int .i64 0) (.int .i64 4) rfl (rfr_stored HR2.out) rfl rfl) rfl ⟨rfl, fr_below HB2.out _ _ _⟩

set_option maxHeartbeats 2000000 in
theorem rread_seq (s : ByteArray) (a : Nat) (w : World) (hs : s.size ≤ 1000000) (ha : a + 16 ≤ s.size) (g1 : 1 ≤ fN s.data.toList a) (g2 : fN s.data.toList a ≤ 4096) (h : 1048576 ≤ fQ s.data.toList a) :
    Calls Tryz.prog 86 #[.string s, .int .i64 a] w
      fun e w' => e = .returned (.tuple #[frV 0 ⟨#[]⟩ 0, .int .i64 0, .int .i64 4]) ∧ Below w.heap.size w w' := by
  have d1 : decide ((a : Int) < 0) = false := decide_eq_false (by omega)
  have d2 : decide (s.size < a) = false := decide_eq_false (by omega)
  have d3 : decide ((s.size : Int) - (a : Int) < 16) = false := decide_eq_false (by omega)
  obtain ⟨n, en⟩ : ∃ n, fN s.data.toList a = n := ⟨_, rfl⟩
  obtain ⟨q, eq⟩ : ∃ q, fQ s.data.toList a = q := ⟨_, rfl⟩
  have K1 := Lib.hid (fun w => number_to s a 4 (a : Int) 4 rfl rfl w hs (by omega) (by omega) n en)
  have K2 := Lib.hid (fun w => number_to s (a + 4) 8 ((a : Int) + 4) 8 (by omega) rfl w hs (by omega) (by omega) q eq)
  have d4 : decide ((n : Int) < 1) = false := decide_eq_false (by omega)
  have d5 : decide ((4096 : Int) < (n : Int)) = false := decide_eq_false (by omega)
  have d6 : decide ((1048576 : Int) ≤ (q : Int)) = true := decide_eq_true (by omega)
  have EN := Lib.hid en
  have EQ := Lib.hid eq
  clear en eq
  go_enter Tryz.func86, Tryz.ntmps86
  go_wp2_with fail
  obtain ⟨w0, ew0⟩ : ∃ z, w.alloc (.cells #[.int .i64 0, .string ⟨#[]⟩, .int .i64 0] 95) = z := ⟨_, rfl⟩
  have hr0 : w0.heap[w.heap.size]? = some (.cells (frCells 0 ⟨#[]⟩ 0) 95) := by rw [← ew0]; exact heap_alloc_new _ _
  have hz0 : w0.heap.size = w.heap.size + 1 := by rw [← ew0]; simp
  have hb0 : Below w.heap.size w w0 := by rw [← ew0]; exact (Below.refl _ _).alloc (Nat.le_refl _) _
  rw [ew0]
  clear ew0
  with_reducible refine (K1.out _).mono ?_
  rintro e w1 ⟨rfl, hb1⟩
  have HB1 := Lib.hid (hb0.trans (hb1.mono (by omega)))
  have HR1 := Lib.hid ((hb1.block w.heap.size (by omega)).trans hr0)
  have hz1 : w.heap.size < w1.heap.size := by have := hb1.size; omega
  clear hb0 hr0 hb1 hz0
  go_wp2_with fail
  with_reducible refine (K2.out _).mono ?_
  rintro e w2 ⟨rfl, hb2⟩
  have HB2 := Lib.hid (HB1.out.trans (hb2.mono (by omega)))
  have hr2 := (hb2.block w.heap.size (by omega)).trans HR1.out
  have HR2 := Lib.hid hr2
  obtain ⟨k0, k1, k2, l0, l1, l2⟩ := rfr_cells hr2
  clear HB1 HR1 hb2 hr2
  go_wp2_with fail
  refine bodyPost_ret_by (results_rframe _ _ w.heap.size 0 ⟨#[]⟩ 0 (.int .i64 0) (.int .i64 4) rfl (rfr_stored HR2.out) rfl rfl) rfl ⟨rfl, fr_below HB2.out _ _ _⟩

set_option maxHeartbeats 2000000 in
theorem rread_cut (s : ByteArray) (a : Nat) (w : World) (hs : s.size ≤ 1000000) (ha : a + 16 ≤ s.size) (g1 : 1 ≤ fN s.data.toList a) (g2 : fN s.data.toList a ≤ 4096) (g3 : fQ s.data.toList a < 1048576) (h : s.size < a + 16 + fN s.data.toList a) :
    Calls Tryz.prog 86 #[.string s, .int .i64 a] w
      fun e w' => e = .returned (.tuple #[frV 0 ⟨#[]⟩ 0, .int .i64 0, .int .i64 8]) ∧ Below w.heap.size w w' := by
  have d1 : decide ((a : Int) < 0) = false := decide_eq_false (by omega)
  have d2 : decide (s.size < a) = false := decide_eq_false (by omega)
  have d3 : decide ((s.size : Int) - (a : Int) < 16) = false := decide_eq_false (by omega)
  obtain ⟨n, en⟩ : ∃ n, fN s.data.toList a = n := ⟨_, rfl⟩
  obtain ⟨q, eq⟩ : ∃ q, fQ s.data.toList a = q := ⟨_, rfl⟩
  have K1 := Lib.hid (fun w => number_to s a 4 (a : Int) 4 rfl rfl w hs (by omega) (by omega) n en)
  have K2 := Lib.hid (fun w => number_to s (a + 4) 8 ((a : Int) + 4) 8 (by omega) rfl w hs (by omega) (by omega) q eq)
  have d4 : decide ((n : Int) < 1) = false := decide_eq_false (by omega)
  have d5 : decide ((4096 : Int) < (n : Int)) = false := decide_eq_false (by omega)
  have d6 : decide ((1048576 : Int) ≤ (q : Int)) = false := decide_eq_false (by omega)
  have d7 : ((n : Int) % 18446744073709551616) = n := by omega
  have hn4 : (n : Int) ≤ 4096 := by omega
  have hq4 : (q : Int) ≤ 1048576 := by omega
  have d8 : decide ((s.size : Int) < (a : Int) + 16 + (n : Int)) = true := decide_eq_true (by omega)
  have EN := Lib.hid en
  have EQ := Lib.hid eq
  clear en eq d7
  go_enter Tryz.func86, Tryz.ntmps86
  go_wp2_with fail
  obtain ⟨w0, ew0⟩ : ∃ z, w.alloc (.cells #[.int .i64 0, .string ⟨#[]⟩, .int .i64 0] 95) = z := ⟨_, rfl⟩
  have hr0 : w0.heap[w.heap.size]? = some (.cells (frCells 0 ⟨#[]⟩ 0) 95) := by rw [← ew0]; exact heap_alloc_new _ _
  have hz0 : w0.heap.size = w.heap.size + 1 := by rw [← ew0]; simp
  have hb0 : Below w.heap.size w w0 := by rw [← ew0]; exact (Below.refl _ _).alloc (Nat.le_refl _) _
  rw [ew0]
  clear ew0
  with_reducible refine (K1.out _).mono ?_
  rintro e w1 ⟨rfl, hb1⟩
  have HB1 := Lib.hid (hb0.trans (hb1.mono (by omega)))
  have HR1 := Lib.hid ((hb1.block w.heap.size (by omega)).trans hr0)
  have hz1 : w.heap.size < w1.heap.size := by have := hb1.size; omega
  clear hb0 hr0 hb1 hz0
  go_wp2_with fail
  with_reducible refine (K2.out _).mono ?_
  rintro e w2 ⟨rfl, hb2⟩
  have HB2 := Lib.hid (HB1.out.trans (hb2.mono (by omega)))
  have hr2 := (hb2.block w.heap.size (by omega)).trans HR1.out
  have HR2 := Lib.hid hr2
  obtain ⟨k0, k1, k2, l0, l1, l2⟩ := rfr_cells hr2
  clear HB1 HR1 hb2 hr2
  go_wp2_with fail
  refine bodyPost_ret_by (results_rframe _ _ w.heap.size 0 ⟨#[]⟩ 0 (.int .i64 0) (.int .i64 8) rfl (rfr_stored HR2.out) rfl rfl) rfl ⟨rfl, fr_below HB2.out _ _ _⟩

set_option maxHeartbeats 2000000 in
theorem rread_sum (s : ByteArray) (a : Nat) (w : World) (hs : s.size ≤ 1000000) (ha : a + 16 ≤ s.size) (g1 : 1 ≤ fN s.data.toList a) (g2 : fN s.data.toList a ≤ 4096) (g3 : fQ s.data.toList a < 1048576) (hend : a + 16 + fN s.data.toList a ≤ s.size) (h : ¬ fSum s.data.toList a) :
    Calls Tryz.prog 86 #[.string s, .int .i64 a] w
      fun e w' => e = .returned (.tuple #[frV 0 ⟨#[]⟩ 0, .int .i64 0, .int .i64 42]) ∧ Below w.heap.size w w' := by
  have d1 : decide ((a : Int) < 0) = false := decide_eq_false (by omega)
  have d2 : decide (s.size < a) = false := decide_eq_false (by omega)
  have d3 : decide ((s.size : Int) - (a : Int) < 16) = false := decide_eq_false (by omega)
  obtain ⟨n, en⟩ : ∃ n, fN s.data.toList a = n := ⟨_, rfl⟩
  obtain ⟨q, eq⟩ : ∃ q, fQ s.data.toList a = q := ⟨_, rfl⟩
  have K1 := Lib.hid (fun w => number_to s a 4 (a : Int) 4 rfl rfl w hs (by omega) (by omega) n en)
  have K2 := Lib.hid (fun w => number_to s (a + 4) 8 ((a : Int) + 4) 8 (by omega) rfl w hs (by omega) (by omega) q eq)
  have d4 : decide ((n : Int) < 1) = false := decide_eq_false (by omega)
  have d5 : decide ((4096 : Int) < (n : Int)) = false := decide_eq_false (by omega)
  have d6 : decide ((1048576 : Int) ≤ (q : Int)) = false := decide_eq_false (by omega)
  have d7 : ((n : Int) % 18446744073709551616) = n := by omega
  have hn4 : (n : Int) ≤ 4096 := by omega
  have hq4 : (q : Int) ≤ 1048576 := by omega
  have d8 : decide ((s.size : Int) < (a : Int) + 16 + (n : Int)) = false := decide_eq_false (by omega)
  have hsum := sum_iff s.data.toList a (by rw [len_data]; omega)
  rw [en] at hsum
  obtain ⟨p, ep⟩ : ∃ p, s.extract (a + 16) (a + 16 + n) = p := ⟨_, rfl⟩
  have hpd : p.data.toList = sl s.data.toList (a + 16) n := by rw [← ep, sl_extract]
  have hps : p.size = n := by rw [← len_data, hpd]; exact sl_length _ _ _ (by rw [len_data]; omega)
  obtain ⟨hd, ehd⟩ : ∃ p, s.extract a (a + 12) = p := ⟨_, rfl⟩
  have hhd : hd.data.toList = sl s.data.toList a 12 := by rw [← ehd, sl_extract]
  have hhs : hd.size = 12 := by rw [← len_data, hhd]; exact sl_length _ _ _ (by rw [len_data]; omega)
  obtain ⟨ck, eck⟩ : ∃ p, s.extract (a + 12) (a + 16) = p := ⟨_, rfl⟩
  have hck : ck.data.toList = sl s.data.toList (a + 12) 4 := by rw [← eck, show a + 16 = (a + 12) + 4 by omega, sl_extract]
  obtain ⟨c, ec⟩ : ∃ c, crc (hd ++ p).data.toList = c := ⟨_, rfl⟩
  have hc : crc (sl s.data.toList a 12 ++ sl s.data.toList (a + 16) n) = c := by rw [← ec, data_app, hhd, hpd]
  rw [hc, ← hck] at hsum
  have OF := Lib.hid (fun w => of_r (hd ++ p) c w (by rw [ByteArray.size_append]; omega) ec)
  obtain ⟨t, et⟩ : ∃ t, bs (four c) = t := ⟨_, rfl⟩
  have LO := Lib.hid (fun w => low_r c t w et)
  have hcat : ¬ 9223372036854775807 < hd.size + p.size := by omega
  have s12 : IntKind.i64.wrap ((a : Int) + 12) = (a : Int) + 12 := IntWalk.i64_in _ (by omega)
  have s16 : IntKind.i64.wrap ((a : Int) + 16) = (a : Int) + 16 := IntWalk.i64_in _ (by omega)
  have t12 : ((a : Int) + 12).toNat = a + 12 := by omega
  have t16 : ((a : Int) + 16).toNat = a + 16 := by omega
  have tn : ((a : Int) + 16 + (n : Int)).toNat = a + 16 + n := by omega
  have b1 : (0 : Int) ≤ (a : Int) + 12 := by omega
  have b2 : (a : Int) + 12 ≤ (a : Int) + 16 := by omega
  have b3 : (a : Int) + 16 ≤ (s.size : Int) := by omega
  have b4 : (a : Int) ≤ (a : Int) + 12 := by omega
  have b5 : (a : Int) + 12 ≤ (s.size : Int) := by omega
  have b6 : (0 : Int) ≤ (a : Int) + 16 := by omega
  have b7 : (a : Int) + 16 ≤ (a : Int) + 16 + (n : Int) := by omega
  have b8 : (a : Int) + 16 + (n : Int) ≤ (s.size : Int) := by omega
  have hne : (ck.toList == t.toList) = false := by
    rw [beq_eq_false_iff_ne, ByteArray.toList_eq, ByteArray.toList_eq, ← et, bs_data]
    exact fun e => h (hsum.2 e)
  have HPD := Lib.hid hpd
  have EP := Lib.hid ep
  clear hpd hhd hck hc hsum et ec
  have EN := Lib.hid en
  have EQ := Lib.hid eq
  clear en eq d7
  go_enter Tryz.func86, Tryz.ntmps86
  go_wp2_with fail
  obtain ⟨w0, ew0⟩ : ∃ z, w.alloc (.cells #[.int .i64 0, .string ⟨#[]⟩, .int .i64 0] 95) = z := ⟨_, rfl⟩
  have hr0 : w0.heap[w.heap.size]? = some (.cells (frCells 0 ⟨#[]⟩ 0) 95) := by rw [← ew0]; exact heap_alloc_new _ _
  have hz0 : w0.heap.size = w.heap.size + 1 := by rw [← ew0]; simp
  have hb0 : Below w.heap.size w w0 := by rw [← ew0]; exact (Below.refl _ _).alloc (Nat.le_refl _) _
  rw [ew0]
  clear ew0
  with_reducible refine (K1.out _).mono ?_
  rintro e w1 ⟨rfl, hb1⟩
  have HB1 := Lib.hid (hb0.trans (hb1.mono (by omega)))
  have HR1 := Lib.hid ((hb1.block w.heap.size (by omega)).trans hr0)
  have hz1 : w.heap.size < w1.heap.size := by have := hb1.size; omega
  clear hb0 hr0 hb1 hz0
  go_wp2_with fail
  with_reducible refine (K2.out _).mono ?_
  rintro e w2 ⟨rfl, hb2⟩
  have HB2 := Lib.hid (HB1.out.trans (hb2.mono (by omega)))
  have hr2 := (hb2.block w.heap.size (by omega)).trans HR1.out
  have HR2 := Lib.hid hr2
  obtain ⟨k0, k1, k2, l0, l1, l2⟩ := rfr_cells hr2
  clear HB1 HR1 hb2 hr2
  go_upto_region 12 with fail
  go_region_with (first | (go_at_call 52; (with_reducible refine (OF.out _).mono ?_); rintro e w' ⟨rfl, rfl⟩) | (go_at_call 88; (with_reducible refine (LO.out _).mono ?_); rintro e w3 ⟨rfl, hb3⟩))
  have hz2 : w.heap.size < w2.heap.size := (Array.getElem?_eq_some_iff.1 HR2.out).1
  have hb3' := bel_undrew hb3
  have HB3 := Lib.hid (HB2.out.trans (hb3'.mono (by omega)))
  have hr3 := (hb3'.block w.heap.size hz2).trans HR2.out
  have HR3 := Lib.hid hr3
  obtain ⟨m0, m1, m2, o0, o1, o2⟩ := rfr_cells hr3
  clear k0 k1 k2 l0 l1 l2 hb3 hb3' hr3 HR2 HB2 s12 s16 t12 t16 tn
  go_wp2_with fail
  refine bodyPost_ret_by (results_rframe _ _ w.heap.size 0 ⟨#[]⟩ 0 (.int .i64 0) (.int .i64 42) rfl (rfr_stored HR3.out) rfl rfl) rfl ⟨rfl, fr_below HB3.out _ _ _⟩

set_option maxHeartbeats 2000000 in
theorem rread_ok (s : ByteArray) (a : Nat) (w : World) (hs : s.size ≤ 1000000) (ha : a + 16 ≤ s.size) (g1 : 1 ≤ fN s.data.toList a) (g2 : fN s.data.toList a ≤ 4096) (g3 : fQ s.data.toList a < 1048576) (hend : a + 16 + fN s.data.toList a ≤ s.size) (h : fSum s.data.toList a) :
    Calls Tryz.prog 86 #[.string s, .int .i64 a] w
      fun e w' => e = .returned (.tuple #[frV (fQ s.data.toList a) (bs (sl s.data.toList (a + 16) (fN s.data.toList a))) a, .int .i64 ((a + 16 + fN s.data.toList a : Nat) : Int), .int .i64 0]) ∧ Below w.heap.size w w' := by
  have d1 : decide ((a : Int) < 0) = false := decide_eq_false (by omega)
  have d2 : decide (s.size < a) = false := decide_eq_false (by omega)
  have d3 : decide ((s.size : Int) - (a : Int) < 16) = false := decide_eq_false (by omega)
  obtain ⟨n, en⟩ : ∃ n, fN s.data.toList a = n := ⟨_, rfl⟩
  obtain ⟨q, eq⟩ : ∃ q, fQ s.data.toList a = q := ⟨_, rfl⟩
  have K1 := Lib.hid (fun w => number_to s a 4 (a : Int) 4 rfl rfl w hs (by omega) (by omega) n en)
  have K2 := Lib.hid (fun w => number_to s (a + 4) 8 ((a : Int) + 4) 8 (by omega) rfl w hs (by omega) (by omega) q eq)
  have d4 : decide ((n : Int) < 1) = false := decide_eq_false (by omega)
  have d5 : decide ((4096 : Int) < (n : Int)) = false := decide_eq_false (by omega)
  have d6 : decide ((1048576 : Int) ≤ (q : Int)) = false := decide_eq_false (by omega)
  have d7 : ((n : Int) % 18446744073709551616) = n := by omega
  have hn4 : (n : Int) ≤ 4096 := by omega
  have hq4 : (q : Int) ≤ 1048576 := by omega
  have d8 : decide ((s.size : Int) < (a : Int) + 16 + (n : Int)) = false := decide_eq_false (by omega)
  have hsum := sum_iff s.data.toList a (by rw [len_data]; omega)
  rw [en] at hsum
  obtain ⟨p, ep⟩ : ∃ p, s.extract (a + 16) (a + 16 + n) = p := ⟨_, rfl⟩
  have hpd : p.data.toList = sl s.data.toList (a + 16) n := by rw [← ep, sl_extract]
  have hps : p.size = n := by rw [← len_data, hpd]; exact sl_length _ _ _ (by rw [len_data]; omega)
  obtain ⟨hd, ehd⟩ : ∃ p, s.extract a (a + 12) = p := ⟨_, rfl⟩
  have hhd : hd.data.toList = sl s.data.toList a 12 := by rw [← ehd, sl_extract]
  have hhs : hd.size = 12 := by rw [← len_data, hhd]; exact sl_length _ _ _ (by rw [len_data]; omega)
  obtain ⟨ck, eck⟩ : ∃ p, s.extract (a + 12) (a + 16) = p := ⟨_, rfl⟩
  have hck : ck.data.toList = sl s.data.toList (a + 12) 4 := by rw [← eck, show a + 16 = (a + 12) + 4 by omega, sl_extract]
  obtain ⟨c, ec⟩ : ∃ c, crc (hd ++ p).data.toList = c := ⟨_, rfl⟩
  have hc : crc (sl s.data.toList a 12 ++ sl s.data.toList (a + 16) n) = c := by rw [← ec, data_app, hhd, hpd]
  rw [hc, ← hck] at hsum
  have OF := Lib.hid (fun w => of_r (hd ++ p) c w (by rw [ByteArray.size_append]; omega) ec)
  obtain ⟨t, et⟩ : ∃ t, bs (four c) = t := ⟨_, rfl⟩
  have LO := Lib.hid (fun w => low_r c t w et)
  have hcat : ¬ 9223372036854775807 < hd.size + p.size := by omega
  have s12 : IntKind.i64.wrap ((a : Int) + 12) = (a : Int) + 12 := IntWalk.i64_in _ (by omega)
  have s16 : IntKind.i64.wrap ((a : Int) + 16) = (a : Int) + 16 := IntWalk.i64_in _ (by omega)
  have t12 : ((a : Int) + 12).toNat = a + 12 := by omega
  have t16 : ((a : Int) + 16).toNat = a + 16 := by omega
  have tn : ((a : Int) + 16 + (n : Int)).toNat = a + 16 + n := by omega
  have b1 : (0 : Int) ≤ (a : Int) + 12 := by omega
  have b2 : (a : Int) + 12 ≤ (a : Int) + 16 := by omega
  have b3 : (a : Int) + 16 ≤ (s.size : Int) := by omega
  have b4 : (a : Int) ≤ (a : Int) + 12 := by omega
  have b5 : (a : Int) + 12 ≤ (s.size : Int) := by omega
  have b6 : (0 : Int) ≤ (a : Int) + 16 := by omega
  have b7 : (a : Int) + 16 ≤ (a : Int) + 16 + (n : Int) := by omega
  have b8 : (a : Int) + 16 + (n : Int) ≤ (s.size : Int) := by omega
  have hne : (ck.toList == t.toList) = true := by
    rw [beq_iff_eq, ByteArray.toList_eq, ByteArray.toList_eq, ← et, bs_data]
    exact hsum.1 h
  have HPD := Lib.hid hpd
  have EP := Lib.hid ep
  clear hpd hhd hck hc hsum et ec
  have EN := Lib.hid en
  have EQ := Lib.hid eq
  clear en eq d7
  go_enter Tryz.func86, Tryz.ntmps86
  go_wp2_with fail
  obtain ⟨w0, ew0⟩ : ∃ z, w.alloc (.cells #[.int .i64 0, .string ⟨#[]⟩, .int .i64 0] 95) = z := ⟨_, rfl⟩
  have hr0 : w0.heap[w.heap.size]? = some (.cells (frCells 0 ⟨#[]⟩ 0) 95) := by rw [← ew0]; exact heap_alloc_new _ _
  have hz0 : w0.heap.size = w.heap.size + 1 := by rw [← ew0]; simp
  have hb0 : Below w.heap.size w w0 := by rw [← ew0]; exact (Below.refl _ _).alloc (Nat.le_refl _) _
  rw [ew0]
  clear ew0
  with_reducible refine (K1.out _).mono ?_
  rintro e w1 ⟨rfl, hb1⟩
  have HB1 := Lib.hid (hb0.trans (hb1.mono (by omega)))
  have HR1 := Lib.hid ((hb1.block w.heap.size (by omega)).trans hr0)
  have hz1 : w.heap.size < w1.heap.size := by have := hb1.size; omega
  clear hb0 hr0 hb1 hz0
  go_wp2_with fail
  with_reducible refine (K2.out _).mono ?_
  rintro e w2 ⟨rfl, hb2⟩
  have HB2 := Lib.hid (HB1.out.trans (hb2.mono (by omega)))
  have hr2 := (hb2.block w.heap.size (by omega)).trans HR1.out
  have HR2 := Lib.hid hr2
  obtain ⟨k0, k1, k2, l0, l1, l2⟩ := rfr_cells hr2
  clear HB1 HR1 hb2 hr2
  go_upto_region 12 with fail
  go_region_with (first | (go_at_call 52; (with_reducible refine (OF.out _).mono ?_); rintro e w' ⟨rfl, rfl⟩) | (go_at_call 88; (with_reducible refine (LO.out _).mono ?_); rintro e w3 ⟨rfl, hb3⟩))
  have hz2 : w.heap.size < w2.heap.size := (Array.getElem?_eq_some_iff.1 HR2.out).1
  have hb3' := bel_undrew hb3
  have HB3 := Lib.hid (HB2.out.trans (hb3'.mono (by omega)))
  have hr3 := (hb3'.block w.heap.size hz2).trans HR2.out
  have HR3 := Lib.hid hr3
  obtain ⟨m0, m1, m2, o0, o1, o2⟩ := rfr_cells hr3
  clear k0 k1 k2 l0 l1 l2 hb3 hb3' hr3 HR2 HB2 s12 s16 t12 t16 tn
  go_wp2_with fail
  rw [EN.out, EQ.out]
  refine bodyPost_ret_by (results_rframe _ _ w.heap.size q p a (.int .i64 ((a : Int) + 16 + (n : Int))) (.int .i64 0) rfl (rfr_stored HR3.out) rfl rfl) rfl ⟨?_, fr_below HB3.out _ _ _⟩
  rw [← HPD.out, bs_of]; rfl

/-- the reference's Read is what is read -/
theorem rread_any (s : ByteArray) (at_ : Int) (w : World) (hs : s.size ≤ 1000000) :
    Calls Tryz.prog 86 #[.string s, .int .i64 at_] w fun e w' => e = .returned (readV s at_) ∧ Below w.heap.size w w' := by
  have hl : s.data.toList.length = s.size := rfl
  by_cases h0 : at_ < 0 ∨ (s.size : Int) < at_
  · have e : rdE s.data.toList at_ = 1 := by unfold rdE; rw [hl, if_pos h0]
    unfold readV
    rw [e, if_neg (by decide)]
    exact rread_arg s at_ w h0
  obtain ⟨a, rfl⟩ : ∃ a : Nat, at_ = a := ⟨at_.toNat, by omega⟩
  by_cases hE : fE s.data.toList a = 0
  · rw [readV_good s a (by omega) hE]
    obtain ⟨g1, ⟨⟨n1, n2⟩, q1⟩, g3, g4⟩ := fE_zero hE
    exact rread_ok s a w hs (by omega) n1 n2 q1 (by have : fNext s.data.toList a ≤ s.data.toList.length := g3; unfold fNext at this; omega) g4
  rw [readV_bad s a (by omega) hE]
  unfold fE
  rw [hl]
  by_cases h1 : s.size < a + 16
  · rw [if_pos h1]; exact rread_short s a w (by omega) h1
  rw [if_neg h1]
  by_cases h2 : fOk s.data.toList a
  · rw [if_neg (not_not_intro h2)]
    obtain ⟨⟨n1, n2⟩, q1⟩ := h2
    by_cases h3 : s.size < a + 16 + fN s.data.toList a
    · rw [if_pos h3]; exact rread_cut s a w hs (by omega) n1 n2 q1 h3
    rw [if_neg h3]
    by_cases h4 : fSum s.data.toList a
    · exact absurd (by unfold fE; rw [hl, if_neg h1, if_neg (not_not_intro ⟨⟨n1, n2⟩, q1⟩), if_neg h3, if_neg (not_not_intro h4)]) hE
    · rw [if_pos h4]; exact rread_sum s a w hs (by omega) n1 n2 q1 (by omega) h4
  · rw [if_pos h2]
    by_cases m1 : fN s.data.toList a < 1
    · exact rread_zero s a w hs (by omega) m1
    by_cases m2 : 4096 < fN s.data.toList a
    · exact rread_big s a w hs (by omega) m2
    exact rread_seq s a w hs (by omega) (by omega) (by omega) (by refine Decidable.byContradiction fun h => h2 ⟨⟨by omega, by omega⟩, by omega⟩)

end Go.Proofs.YtaonjbkkgeiniaaGreatDoor

/- Walks over soukref10.Make and soukref10.Scan. -/
namespace Go.Proofs.YtaonjbkkgeiniaaGreatDoor
open Go.RowKit

theorem rfix_to (n k : Nat) (a m : Int) (ha : (n : Int) = a) (hm : (k : Int) = m) (hk : k ≤ 100) (hn : n < 18446744073709551616) (t : ByteArray) (ht : bs (fixL n k) = t) (w : World) :
    Calls Tryz.prog 54 #[.int .u64 a, .int .i64 m] w fun e w' => e = .returned (.string t) ∧ Below w.heap.size w w' := by
  subst ha hm ht; exact rfix_any k hk n w hn

set_option maxHeartbeats 2000000 in
theorem rmake_any (seq : Int) (s : ByteArray) (w : World) (hs : s.size ≤ 1000000) :
    Calls Tryz.prog 60 #[.int .i64 seq, .string s] w
      fun e w' => e = .returned (.tuple #[.string (mkS seq s), .int .i64 (mkE seq s)]) ∧ Below w.heap.size w w' := by
  by_cases h1 : seq < 0
  · have d1 : decide (seq < 0) = true := by simp [h1]
    have e1 : mkE seq s = 1 := by simp [mkE, h1]
    have e2 : mkS seq s = ⟨#[]⟩ := by simp [mkS, e1]
    rw [e1, e2]
    go_enter Tryz.func60, Tryz.ntmps60
    go_wp2_with fail
    go_ret2
    exact ⟨rfl, Below.refl _ _⟩
  by_cases h2 : 1048576 ≤ seq
  · have d1 : decide (seq < 0) = false := by simp [h1]
    have d2 : decide (1048576 ≤ seq) = true := by simp [h2]
    have e1 : mkE seq s = 1 := by simp [mkE, h2]
    have e2 : mkS seq s = ⟨#[]⟩ := by simp [mkS, e1]
    rw [e1, e2]
    go_enter Tryz.func60, Tryz.ntmps60
    go_wp2_with fail
    go_ret2
    exact ⟨rfl, Below.refl _ _⟩
  have d1 : decide (seq < 0) = false := by simp [h1]
  have d2 : decide (1048576 ≤ seq) = false := by simp [h2]
  by_cases h3 : s.size = 0
  · obtain rfl : s = ⟨#[]⟩ := by
      apply ByteArray.ext
      exact Array.eq_empty_of_size_eq_zero h3
    have e1 : mkE seq ⟨#[]⟩ = 4 := by simp [mkE, h1, h2, h3]
    have e2 : mkS seq ⟨#[]⟩ = ⟨#[]⟩ := by simp [mkS, e1]
    rw [e1, e2]
    go_enter Tryz.func60, Tryz.ntmps60
    go_wp2_with fail
    go_ret2
    exact ⟨rfl, Below.refl _ _⟩
  have hne : s ≠ ⟨#[]⟩ := by rintro rfl; exact h3 rfl
  have d3 : s.toList.isEmpty = false := by
    rw [Bool.eq_false_iff]; intro h; exact hne (ByteArray.ext (by rw [ByteArray.toList_eq] at h; exact Array.ext' (List.isEmpty_iff.1 h)))
  by_cases h4 : 4096 < s.size
  · have d4 : decide ((4096 : Int) < (s.size : Int)) = true := decide_eq_true (by omega)
    have e1 : mkE seq s = 40 := by simp [mkE, h1, h2, h3, h4]
    have e2 : mkS seq s = ⟨#[]⟩ := by simp [mkS, e1]
    rw [e1, e2]
    go_enter Tryz.func60, Tryz.ntmps60
    go_wp2_with fail
    go_ret2
    exact ⟨rfl, Below.refl _ _⟩
  have d4 : decide ((4096 : Int) < (s.size : Int)) = false := decide_eq_false (by omega)
  have e1 : mkE seq s = 0 := by simp [mkE, h1, h2, h3, h4]
  have e2 : mkS seq s = bs (frm seq.toNat s.data.toList) := by simp [mkS, e1]
  rw [e1, e2]
  obtain ⟨n, rfl⟩ : ∃ n : Nat, seq = n := ⟨seq.toNat, by omega⟩
  rw [Int.toNat_natCast]
  have C1 : ((s.size : Int) % 18446744073709551616) = s.size := by omega
  have C2 : ((n : Int) % 18446744073709551616) = n := by omega
  obtain ⟨x, ex⟩ : ∃ x, bs (be4 s.size) = x := ⟨_, rfl⟩
  obtain ⟨y, ey⟩ : ∃ y, bs (be8 n) = y := ⟨_, rfl⟩
  have hx : x.size = 4 := by rw [← ex]; rfl
  have hy : y.size = 8 := by rw [← ey]; rfl
  have K1 := Lib.hid (rfix_to s.size 4 (s.size : Int) 4 rfl rfl (by omega) (by omega) x (by rw [fixL_be4]; exact ex))
  have K2 := Lib.hid (rfix_to n 8 (n : Int) 8 rfl rfl (by omega) (by omega) y (by rw [fixL_be8]; exact ey))
  have hd : (x ++ y ++ s).data.toList = head s.size n ++ s.data.toList := by rw [data_app, data_app, ← ex, ← ey, bs_data, bs_data]; rfl
  obtain ⟨c, ec⟩ : ∃ c, crc (x ++ y ++ s).data.toList = c := ⟨_, rfl⟩
  obtain ⟨t, et⟩ : ∃ t, bs (four c) = t := ⟨_, rfl⟩
  have ht : t.size = 4 := by rw [← et]; rfl
  have K3 := Lib.hid (fun w => of_r (x ++ y ++ s) c w (by rw [ByteArray.size_append, ByteArray.size_append]; omega) ec)
  have K4 := Lib.hid (fun w => low_r c t w et)
  have hfin : x ++ y ++ t ++ s = bs (frm n s.data.toList) := by
    apply ba_ext
    rw [bs_data, data_app, data_app, data_app, ← ex, ← ey, ← et, bs_data, bs_data, bs_data]
    unfold frm
    rw [len_data, ← hd, ec]
    rfl
  have HF := Lib.hid hfin
  have EX := Lib.hid ex
  have hcat1 : ¬ 9223372036854775807 < x.size + y.size := by omega
  clear ex ey et ec hd hfin e1 e2 h1 h2 h3 h4 hne
  go_enter Tryz.func60, Tryz.ntmps60
  go_wp2_with fail
  with_reducible refine (K1.out _).mono ?_
  rintro e w1 ⟨rfl, hb1⟩
  go_wp2_with fail
  with_reducible refine (K2.out _).mono ?_
  rintro e w2 ⟨rfl, hb2⟩
  go_wp2_with fail
  with_reducible refine (K3.out _).mono ?_
  rintro e w' ⟨rfl, rfl⟩
  go_wp2_with fail
  with_reducible refine (K4.out _).mono ?_
  rintro e w3 ⟨rfl, hb3⟩
  go_wp2_with fail
  go_ret2
  rw [← HF.out]
  exact ⟨rfl, bel_trans (bel_trans hb1 hb2) hb3⟩

end Go.Proofs.YtaonjbkkgeiniaaGreatDoor

/- The walk over soukref10.Scan. -/
namespace Go.Proofs.YtaonjbkkgeiniaaGreatDoor
open Go.RowKit

theorem infoRF : (Tryz.prog.info? 95).map (fun i => (i.zero, i.size, i.bytes)) = some (some (.agg #[.int .i64 0, .string ⟨#[]⟩, .int .i64 0]), 3, 32) := by kernel_rfl

theorem own_new {w : World} {B : Nat} (hB : B ≤ w.heap.size) (q : Nat) (p : ByteArray) (a : Int) :
    (w.alloc (.cells (frCells q p a) 95)).ownsRow B 95 3 (.slice (some ⟨w.heap.size, 0, none⟩) 1 1) 1 (frCells q p a).toList :=
  ⟨rfl, .inr ⟨w.heap.size, 1, frCells q p a, rfl, hB, heap_alloc_new _ _, Nat.le_refl _, by decide, rfl, rfl⟩⟩
theorem one_fr (s : ByteArray) (xs : List Nat) : ∀ u ∈ frRow s xs, u.oneCell' = true := by
  intro u hu
  unfold frRow at hu
  rw [List.mem_flatMap] at hu
  obtain ⟨a, _, h⟩ := hu
  simp [frCells] at h
  rcases h with rfl | rfl | rfl <;> rfl
theorem add_blk (a : Addr) (j : Nat) : (a.add j).block = a.block := by unfold Addr.add; split <;> rfl
theorem below_own {w w' : World} {B : Nat} {t : TypeId} {k n : Nat} {v : Value} {xs : List Value} (h : w.ownsRow B t k v n xs) (hb : Below w.heap.size w w') : w'.ownsRow B t k v n xs :=
  ⟨h.1, h.2.imp id (fun ⟨g, c, cur, e1, e2, e3, e4⟩ => ⟨g, c, cur, e1, e2, by rw [hb.block g (Array.getElem?_eq_some_iff.1 e3).1]; exact e3, e4⟩)⟩
theorem scanP_len (l : List UInt8) : ∀ (k a : Nat) (f : Int), a ≤ l.length → (scanP l k a f).length * 16 + a ≤ l.length := by
  intro k
  induction k with
  | zero => intro a f h; show 0 * 16 + a ≤ _; omega
  | succ k ih =>
    intro a f h
    by_cases hg : fGood l a f
    · have e : scanP l (k + 1) a f = a :: scanP l k (fNext l a) (f + 1) := by show (if _ then _ else _) = _; rw [if_pos hg]
      obtain ⟨_, _, h3, _⟩ := fE_zero hg.1
      have := ih (fNext l a) (f + 1) h3
      rw [e, List.length_cons]
      unfold fNext at this h3
      unfold fNext
      omega
    · have e : scanP l (k + 1) a f = [] := by show (if _ then _ else _) = _; rw [if_neg hg]
      rw [e]; show 0 * 16 + a ≤ _; omega

set_option maxHeartbeats 4000000 in
theorem rscan_in (s : ByteArray) (hs : s.size ≤ 1000000) : ∀ (k a : Nat) (f : Int) (w : World), a ≤ s.size → s.size - a < k → -9223372036854775808 ≤ f → f ≤ 9223372036854775807 →
    Calls Tryz.prog 57 #[.string s, .int .i64 a, .int .i64 f] w
      fun e w' => ∃ v, e = .returned (.tuple #[v, .int .i64 (goodP s.data.toList a (scanP s.data.toList k a f) : Nat)]) ∧
        w'.ownsRow w.heap.size 95 3 v (scanP s.data.toList k a f).length (frRow s (scanP s.data.toList k a f)) ∧ Below w.heap.size w w' := by
  have hl : s.data.toList.length = s.size := rfl
  intro k
  induction k with
  | zero => intro a f w ha hk; omega
  | succ k ih =>
    intro a f w ha hk hf0 hf1
    have d1 : decide ((a : Int) < 0) = false := decide_eq_false (by omega)
    have d2 : decide (s.size < a) = false := decide_eq_false (by omega)
    have hr := fun w => rread_any s a w hs
    by_cases hE : fE s.data.toList a = 0
    · obtain ⟨g1, ⟨⟨n1, n2⟩, q1⟩, g3, g4⟩ := fE_zero hE
      rw [readV_good s a ha hE] at hr
      have IH := Lib.hid (fun (f' : Int) (h : f + 1 = f') (w : World) => ih (fNext s.data.toList a) f' w (by rw [← hl]; exact g3) (by unfold fNext; omega))
      have hlen := scanP_len s.data.toList k (fNext s.data.toList a) (f + 1) g3
      have ers : ∀ xs, frRow s (a :: xs) = (frCells (fQ s.data.toList a) (bs (sl s.data.toList (a + 16) (fN s.data.toList a))) a).toList ++ frRow s xs := fun xs => rfl
      have ego : ∀ xs, goodP s.data.toList a (a :: xs) = goodP s.data.toList (fNext s.data.toList a) xs := fun xs => rfl
      by_cases hq : (fQ s.data.toList a : Int) = f
      · have e : scanP s.data.toList (k + 1) a f = a :: scanP s.data.toList k (fNext s.data.toList a) (f + 1) := by show (if _ then _ else _) = _; rw [if_pos ⟨hE, hq⟩]
        rw [e, ego, ers, List.length_cons]
        have HOne := Lib.hid (one_fr s (scanP s.data.toList k (fNext s.data.toList a) (f + 1)))
        obtain ⟨xs, exs⟩ : ∃ xs, scanP s.data.toList k (fNext s.data.toList a) (f + 1) = xs := ⟨_, rfl⟩
        have IH2 := Lib.hid (fun w => IH.out (f + 1) rfl w (by omega) (by omega))
        rw [exs] at hlen HOne IH2 ⊢
        obtain ⟨Y, eY⟩ : ∃ Y, frRow s xs = Y := ⟨_, rfl⟩
        obtain ⟨G, eG⟩ : ∃ G, goodP s.data.toList (fNext s.data.toList a) xs = G := ⟨_, rfl⟩
        rw [eY] at HOne IH2 ⊢
        rw [eG] at IH2 ⊢
        obtain ⟨N, eN⟩ : ∃ N, xs.length = N := ⟨_, rfl⟩
        rw [eN] at hlen IH2 ⊢
        unfold frAt frV frCells at hr
        obtain ⟨q, eq⟩ : ∃ q, fQ s.data.toList a = q := ⟨_, rfl⟩
        rw [eq] at hr hq q1 ⊢
        obtain ⟨p, ep⟩ : ∃ p, bs (sl s.data.toList (a + 16) (fN s.data.toList a)) = p := ⟨_, rfl⟩
        rw [ep] at hr ⊢
        obtain ⟨m, em⟩ : ∃ m, fNext s.data.toList a = m := ⟨_, rfl⟩
        rw [em] at hr IH2 hlen
        have HN := Lib.hid (show N ≤ 1000000 by omega)
        have HR := Lib.hid hr
        clear hr ih IH ers ego e eq ep em exs eY eG eN n1 n2 g1 g3 g4 hlen hf0 hf1 hk
        subst hq
        obtain ⟨i0, hi, hz0, hz1, hz2⟩ := info_parts infoRF
        have HI := Lib.hid hi
        have HZ0 := Lib.hid hz0
        have HZ1 := Lib.hid hz1
        have HZ2 := Lib.hid hz2
        clear hi hz0 hz1 hz2
        go_enter Tryz.func57, Tryz.ntmps57
        go_wp2_with fail
        refine (HR.out _).mono ?_
        rintro e w1 ⟨rfl, hb1⟩
        go_wp2_with fail
        refine (IH2.out _).mono ?_
        rintro e w2 ⟨v, rfl, hown, hb2⟩
        have c0 : w2.heap[w1.heap.size]? = some (.cells (frCells q p a) 95) := (hb2.block _ (by simp)).trans (heap_alloc_new _ _)
        have hr0 := rfr_cells c0
        obtain ⟨k0, k1, k2, _, _, _⟩ := hr0
        have HOWN := Lib.hid hown
        have HB := Lib.hid (bel_trans (bel_alloc hb1 (.cells #[.int .i64 q, .string p, .int .i64 a] 95)) hb2)
        have hbz := HB.out.size
        clear hown hb1 hb2 c0
        rcases HOWN.out.2 with ⟨rfl, rfl⟩ | ⟨g, cap, cur, rfl, hg1, hg2, hg3⟩
        · have hY : Y = [] := List.eq_nil_of_length_eq_zero (by have := HOWN.out.1; omega)
          subst hY
          go_wp2_with (at_builtin; refine wpList_append_own_none rfl _ _ 39 rfl w.heap.size 95 i0 3 Tryz.underlying39 HI.out _ 1 _ rfl (own_new hbz q p a) rfl ?_)
          go_ret2
          exact ⟨_, rfl, by rw [List.append_nil]; exact own_new hbz q p a, bel_alloc HB.out _⟩
        · have hcells := HOWN.out.cells (g := g) rfl
          have hgl : g < w2.heap.size := (Array.getElem?_eq_some_iff.1 hg2).1
          have HCL := Lib.hid hcells
          clear hcells hg2 hg3 hg1
          go_wp2_with (at_builtin; refine wpList_append_own _ rfl _ _ 39 rfl w.heap.size 95 i0 _ 3 32 Tryz.underlying39 HI.out HZ0.out HZ1.out HZ2.out rfl (by decide) _ 1 _ rfl (own_new hbz q p a) ⟨g, 0, none⟩ N cap Y rfl HOWN.out.1 (fun j u hj => (World.cell?_alloc_lt w2 _ _ (by rw [add_blk]; exact hgl)).trans (HCL.out j u hj)) HOne.out (by unfold maxLen; have := HN.out; omega) (by have := HN.out; omega) (by simp; omega) ?_; intro v' w3 hown3 hg3 hx3)
          go_ret2
          refine ⟨_, rfl, ?_, ?_⟩
          · rw [Nat.add_comm] at hown3; exact hown3
          · refine (bel_alloc HB.out _).grown hg3 (by simp; omega) (fun k e => ?_)
            cases e
            exact hbz
      · have e : scanP s.data.toList (k + 1) a f = [] := by show (if _ then _ else _) = _; rw [if_neg (fun h => hq h.2)]
        rw [e]
        unfold frAt frV frCells at hr
        obtain ⟨q, eq⟩ : ∃ q, fQ s.data.toList a = q := ⟨_, rfl⟩
        rw [eq] at hr hq
        obtain ⟨p, ep⟩ : ∃ p, bs (sl s.data.toList (a + 16) (fN s.data.toList a)) = p := ⟨_, rfl⟩
        rw [ep] at hr
        obtain ⟨m, em⟩ : ∃ m, fNext s.data.toList a = m := ⟨_, rfl⟩
        rw [em] at hr
        have hne : ((q : Int) == f) = false := beq_eq_false_iff_ne.2 hq
        have HR := Lib.hid hr
        clear hr ih IH hlen ers ego e eq ep em
        go_enter Tryz.func57, Tryz.ntmps57
        go_wp2_with fail
        refine (HR.out _).mono ?_
        rintro e w1 ⟨rfl, hb1⟩
        go_wp2_with fail
        go_ret2
        exact ⟨.slice none 0 0, rfl, World.ownsRow_nil _ _ _ _, bel_alloc hb1 _⟩
    · rw [readV_bad s a ha hE] at hr
      have e : scanP s.data.toList (k + 1) a f = [] := by show (if _ then _ else _) = _; rw [if_neg (fun h => hE h.1)]
      rw [e]
      unfold frV frCells at hr
      obtain ⟨m, em⟩ : ∃ m, fE s.data.toList a = m := ⟨_, rfl⟩
      rw [em] at hr hE
      have hne : ((m : Int) == 0) = false := beq_eq_false_iff_ne.2 (by omega)
      have HR := Lib.hid hr
      clear hr ih e em
      go_enter Tryz.func57, Tryz.ntmps57
      go_wp2_with fail
      refine (HR.out _).mono ?_
      rintro e w1 ⟨rfl, hb1⟩
      go_wp2_with fail
      go_ret2
      exact ⟨.slice none 0 0, rfl, World.ownsRow_nil _ _ _ _, bel_alloc hb1 _⟩

end Go.Proofs.YtaonjbkkgeiniaaGreatDoor

/- The reference's Scan at any place; rows of frames. -/
namespace Go.Proofs.YtaonjbkkgeiniaaGreatDoor
open Go.RowKit

theorem rscan_out (s : ByteArray) (a : Int) (f : Int) (w : World) (h : a < 0 ∨ (s.size : Int) < a) :
    Calls Tryz.prog 57 #[.string s, .int .i64 a, .int .i64 f] w
      fun e w' => e = .returned (.tuple #[.slice none 0 0, .int .i64 0]) ∧ Below w.heap.size w w' := by
  by_cases h1 : a < 0
  · have d1 : decide (a < 0) = true := decide_eq_true h1
    go_enter Tryz.func57, Tryz.ntmps57
    go_wp2_with fail
    go_ret2
    exact ⟨rfl, Below.refl _ _⟩
  · have d1 : decide (a < 0) = false := decide_eq_false h1
    have d2 : decide ((s.size : Int) < a) = true := decide_eq_true (by omega)
    go_enter Tryz.func57, Tryz.ntmps57
    go_wp2_with fail
    go_ret2
    exact ⟨rfl, Below.refl _ _⟩
theorem rscan_any (s : ByteArray) (a f : Int) (w : World) (hs : s.size ≤ 1000000) (hf : (Lit.int .i64 f).wf = true) :
    Calls Tryz.prog 57 #[.string s, .int .i64 a, .int .i64 f] w
      fun e w' => ∃ v, e = .returned (.tuple #[v, .int .i64 (scanG s.data.toList a f)]) ∧ w'.ownsRow w.heap.size 95 3 v (scanL s.data.toList a f).length (frRow s (scanL s.data.toList a f)) ∧ Below w.heap.size w w' := by
  have hl : s.data.toList.length = s.size := rfl
  have hfb := bounds_i64 hf
  by_cases h : a < 0 ∨ (s.size : Int) < a
  · refine (rscan_out s a f w h).mono ?_
    rintro e w' ⟨rfl, hb⟩
    unfold scanG scanL
    rw [hl, if_pos h, if_pos h]
    exact ⟨.slice none 0 0, rfl, World.ownsRow_nil _ _ _ _, hb⟩
  · obtain ⟨n, rfl⟩ : ∃ n : Nat, a = n := ⟨a.toNat, by omega⟩
    refine (rscan_in s hs (s.size + 1) n f w (by omega) (by omega) hfb.1 hfb.2).mono ?_
    rintro e w' ⟨v, rfl, ho, hb⟩
    unfold scanG scanL
    rw [hl, if_neg h, if_neg h, Int.toNat_natCast]
    exact ⟨v, rfl, ho, hb⟩

/-- a row of frames: each three cells -/
def frs (xs : List Value) (n : Nat) : Prop := ∀ i, i < n → ∃ q p a, xs[3 * i]? = some (.int .i64 q) ∧ xs[3 * i + 1]? = some (.string p) ∧ xs[3 * i + 2]? = some (.int .i64 a)
theorem frs_row (s : ByteArray) : ∀ (ps : List Nat), frs (frRow s ps) ps.length := by
  intro ps
  induction ps with
  | nil => intro i h; cases h
  | cons p ps ih =>
    intro i h
    have e : frRow s (p :: ps) = (frCells (fQ s.data.toList p) (bs (sl s.data.toList (p + 16) (fN s.data.toList p))) p).toList ++ frRow s ps := rfl
    have e3 : (frCells (fQ s.data.toList p) (bs (sl s.data.toList (p + 16) (fN s.data.toList p))) p).toList.length = 3 := rfl
    cases i with
    | zero => exact ⟨_, _, _, rfl, rfl, rfl⟩
    | succ i =>
      obtain ⟨q, t, a, h1, h2, h3⟩ := ih i (by rw [List.length_cons] at h; omega)
      refine ⟨q, t, a, ?_, ?_, ?_⟩
      · rw [e, List.getElem?_append_right (by rw [e3]; omega), e3, show 3 * (i + 1) - 3 = 3 * i by omega]; exact h1
      · rw [e, List.getElem?_append_right (by rw [e3]; omega), e3, show 3 * (i + 1) + 1 - 3 = 3 * i + 1 by omega]; exact h2
      · rw [e, List.getElem?_append_right (by rw [e3]; omega), e3, show 3 * (i + 1) + 2 - 3 = 3 * i + 2 by omega]; exact h3
theorem rrow_cells {w : World} {B cap n : Nat} {oa : Option Addr} {xs : List Value} {t : TypeId} (h : w.ownsRow B t 3 (.slice oa n cap) n xs) (h0 : 0 < n) :
    ∃ g, oa = some ⟨g, 0, none⟩ ∧ g < w.heap.size ∧ ∀ (j : Nat) v, xs[j]? = some v → w.cell? ⟨g, j, none⟩ = some v := by
  rcases h.2 with ⟨_, hn⟩ | ⟨g, c, cur, hv, hB, hcur, _⟩
  · subst hn; cases h0
  · cases hv
    have add : ∀ j, (⟨g, 0, none⟩ : Addr).add j = ⟨g, j, none⟩ := fun j => by unfold Addr.add; split <;> simp_all
    refine ⟨g, rfl, (Array.getElem?_eq_some_iff.1 hcur).1, fun j v hj => ?_⟩
    have c0 := h.cells (g := g) rfl j v hj
    rwa [add] at c0

end Go.Proofs.YtaonjbkkgeiniaaGreatDoor

/- Walks over the reference soukref01: four, Seal, Open, for a seat without the Crc laws. -/
namespace Go.Proofs.YtaonjbkkgeiniaaGreatDoor
open Go.RowKit

set_option maxHeartbeats 400000 in
theorem four_any (c : BitVec 32) (w : World) :
    Calls Tryz.prog 51 #[.int .u32 c.toNat] w fun e w' => e = .returned (.string (bs (four c))) ∧ Below w.heap.size w w' := by
  have hc := conv_bts (four c) 4 4 rfl w
  rw [bts_four] at hc
  go_enter Tryz.func51, Tryz.ntmps51
  go_wp2_with fail
  go_ret
  exact ⟨rfl, bel_alloc (Below.refl _ _) _⟩

set_option maxHeartbeats 400000 in
theorem rseal_str (s : ByteArray) (w : World) (hs : s.size ≤ 1000000000) :
    Calls Tryz.prog 18 #[.string s] w fun e w' => e = .returned (.string (bs (sealL s.data.toList))) ∧ Below w.heap.size w w' := by
  go_enter Tryz.func18, Tryz.ntmps18
  go_wp2_with fail
  refine (rof_str _ _ hs).mono ?_
  rintro e w1 ⟨rfl, rfl⟩
  go_wp2_with fail
  refine (four_any _ _).mono ?_
  rintro e w2 ⟨rfl, hb2⟩
  obtain ⟨x, hx⟩ : ∃ x, x = bs (four (crc s.data.toList)) := ⟨_, rfl⟩
  rw [← hx]
  have hxs : x.size = 4 := by rw [hx]; rfl
  have HX := Lib.hid hx
  clear hx
  go_wp2_with fail
  go_ret
  exact ⟨by rw [HX.out]; rfl, hb2⟩

theorem rof_to (d : BitVec 32) (s : ByteArray) (w : World) (hs : s.size ≤ 1000000000) (h : crc s.data.toList = d) :
    Calls Tryz.prog 52 #[.string s] w fun e w' => e = .returned (.int .u32 d.toNat) ∧ w = w' := by
  subst h; exact rof_str s w hs
theorem four_to (c : BitVec 32) (x : ByteArray) (w : World) (h : bs (four c) = x) :
    Calls Tryz.prog 51 #[.int .u32 c.toNat] w fun e w' => e = .returned (.string x) ∧ Below w.heap.size w w' := by
  subst h; exact four_any c w

set_option maxHeartbeats 400000 in
theorem ropen_short (s : ByteArray) (w : World) (h : s.size < 4) :
    Calls Tryz.prog 55 #[.string s] w fun e w' => e = .returned (.tuple #[.string (bs []), .int .i64 8]) ∧ Below w.heap.size w w' := by
  go_enter Tryz.func55, Tryz.ntmps55
  go_wp2_with fail
  go_ret2
  exact ⟨rfl, Below.refl _ _⟩
theorem sealed_four (s : ByteArray) (n : Nat) (hn : n + 4 = s.size) : isSealed s.data.toList = ((bs (four (crc (s.extract 0 n).data.toList))).toList == (s.extract n s.size).toList) := by
  have e1 : (s.extract 0 n).data.toList = s.data.toList.take n := by simp
  have e2 : (s.extract n s.size).data.toList = s.data.toList.drop n := by
    simp
    exact List.take_of_length_le (by simp)
  have hl : s.data.toList.length = s.size := by simp
  rw [e1]
  unfold isSealed sealL
  rw [hl, show s.size - 4 = n from by omega]
  generalize four (crc (s.data.toList.take n)) = x
  have key : (s.data.toList.take n ++ x = s.data.toList) ↔ (bs x).toList = (s.extract n s.size).toList := by
    rw [toList_bs, ByteArray.toList_eq, e2]
    constructor
    · intro h
      have := congrArg (List.drop n) h
      rw [List.drop_append_of_le_length (by simp; omega), List.drop_of_length_le (by simp; omega)] at this
      exact this
    · intro h
      rw [h, List.take_append_drop]
  rw [Bool.eq_iff_iff, beq_iff_eq, beq_iff_eq]
  exact key

set_option maxHeartbeats 1000000 in
theorem ropen_any (s : ByteArray) (w : World) (b : Bool) (hs : s.size ≤ 1000000000) (h : 4 ≤ s.size) (hy : isSealed s.data.toList = b) :
    Calls Tryz.prog 55 #[.string s] w
      fun e w' => e = .returned (if b then .tuple #[.string (s.extract 0 (s.size - 4)), .int .i64 0] else .tuple #[.string (bs []), .int .i64 42]) ∧ Below w.heap.size w w' := by
  obtain ⟨n, hn⟩ : ∃ n, n = s.size - 4 := ⟨_, rfl⟩
  have e1 : (s.size : Int) - 4 = (n : Int) := by omega
  have h1 : n ≤ s.size := by omega
  have hs1 : (s.extract 0 n).size ≤ 1000000000 := by simp; omega
  have HS := Lib.hid hs1
  rw [← hn]
  obtain ⟨x, hx⟩ : ∃ x, bs (four (crc (s.extract 0 n).data.toList)) = x := ⟨_, rfl⟩
  rw [sealed_four s n (by omega), hx] at hy
  have HX := Lib.hid hx
  clear hn hs1 hx
  obtain ⟨c, hc⟩ : ∃ c, crc (s.extract 0 n).data.toList = c := ⟨_, rfl⟩
  have HC := Lib.hid hc
  have HF := Lib.hid (show bs (four c) = x by rw [← hc]; exact HX.out)
  clear hc
  have g1 : (0 : Int) ≤ (n : Int) := by omega
  have g2 : (n : Int) ≤ (s.size : Int) := by omega
  go_enter Tryz.func55, Tryz.ntmps55
  go_wp2_with fail
  go_region_held3 (fun _ => True) (trivial)
    (first | (go_at_call 52; (with_reducible refine (rof_to _ _ _ HS.out HC.out).mono ?_); rintro e w3 ⟨rfl, rfl⟩) | (go_at_call 51; (with_reducible refine (four_to _ _ _ HF.out).mono ?_); rintro e w4 ⟨rfl, hb4⟩))
  cases b
  · go_wp2_with fail
    go_ret2
    exact ⟨rfl, bel_undrew hb4⟩
  · go_wp2_with fail
    go_ret2
    exact ⟨rfl, bel_undrew hb4⟩

end Go.Proofs.YtaonjbkkgeiniaaGreatDoor

