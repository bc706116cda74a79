/- SegNames: its constants. (Printed by wip/gen_snames.py.) -/
import Derived.Test.YtaonjbkkgeiniaaGreatDoorSegHeadsW
import Derived.Test.YtaonjbkkgeiniaaGreatDoorSgSl
import Derived.Test.YtaonjbkkgeiniaaGreatDoorSgBy
import Derived.Laws.OwnMore
import Derived.Laws.MakeOwn
namespace Go.Proofs.YtaonjbkkgeiniaaGreatDoor
open Go.RowKit

def nmL : List ByteArray := [⟨#[]⟩, ⟨#[115]⟩, ⟨#[115, 45]⟩, ⟨#[115, 48, 48, 48, 48, 48, 48, 48, 51, 45]⟩, ⟨#[115, 51, 45, 49, 55]⟩, ⟨#[115, 48, 48, 48, 48, 48, 48, 48, 51, 45, 48, 48, 48, 48, 48, 48, 48, 48, 48, 49, 55]⟩, ⟨#[115, 48, 48, 48, 48, 48, 48, 48, 51, 95, 48, 48, 48, 48, 48, 48, 48, 48, 49, 55]⟩, ⟨#[83, 48, 48, 48, 48, 48, 48, 48, 51, 45, 48, 48, 48, 48, 48, 48, 48, 48, 49, 55]⟩, ⟨#[115, 48, 48, 48, 48, 48, 48, 48, 43, 45, 48, 48, 48, 48, 48, 48, 48, 48, 49, 55]⟩, ⟨#[115, 48, 48, 48, 48, 48, 48, 48, 51, 45, 48, 48, 48, 57, 57, 57, 57, 57, 57, 57]⟩, ⟨#[110, 48, 48, 48, 48, 48, 48, 48, 48, 49, 55]⟩, ⟨#[32, 115, 48, 48, 48, 48, 48, 48, 48, 51, 45, 48, 48, 48, 48, 48, 48, 48, 48, 49, 55]⟩, ⟨#[115, 45, 48, 48, 48, 48, 48, 48, 51, 45, 48, 48, 48, 48, 48, 48, 48, 48, 49, 55]⟩]
theorem nn_bad {s : ByteArray} (h : okN s.data.toList = false) : ndV s = .tuple #[.int .i64 0, .int .i64 0, .bool false] := by
  unfold ndV
  rw [if_neg (by rw [h]; decide)]
theorem nm_bad : ∀ k < 13, ∃ s, nmL[k]? = some s ∧ s.size ≤ 1000 ∧ ndV s = .tuple #[.int .i64 0, .int .i64 0, .bool false] := by
  intro k hk
  match k, hk with
  | 0, _ => exact ⟨_, rfl, by decide, nn_bad (by decide)⟩
  | 1, _ => exact ⟨_, rfl, by decide, nn_bad (by decide)⟩
  | 2, _ => exact ⟨_, rfl, by decide, nn_bad (by decide)⟩
  | 3, _ => exact ⟨_, rfl, by decide, nn_bad (by decide)⟩
  | 4, _ => exact ⟨_, rfl, by decide, nn_bad (by decide)⟩
  | 5, _ => exact ⟨_, rfl, by decide, nn_bad (by decide)⟩
  | 6, _ => exact ⟨_, rfl, by decide, nn_bad (by decide)⟩
  | 7, _ => exact ⟨_, rfl, by decide, nn_bad (by decide)⟩
  | 8, _ => exact ⟨_, rfl, by decide, nn_bad (by decide)⟩
  | 9, _ => exact ⟨_, rfl, by decide, nn_bad (by decide)⟩
  | 10, _ => exact ⟨_, rfl, by decide, nn_bad (by decide)⟩
  | 11, _ => exact ⟨_, rfl, by decide, nn_bad (by decide)⟩
  | 12, _ => exact ⟨_, rfl, by decide, nn_bad (by decide)⟩
  | k + 13, h => exact absurd h (by omega)
theorem head_to (n x : Int) (s : ByteArray) (h1 : hdA n = s) (h2 : hdX n = x) (w : World) : Calls Tryz.prog 14 #[.int .i64 n] w fun e w' => e = .returned (.tuple #[.string s, .int .i64 x]) ∧ Below w.heap.size w w' := by
  have := header_is n w
  rw [h1, h2] at this
  exact this
theorem first_to {s : ByteArray} {n e : Int} (h : hdV s.data.toList = .tuple #[.int .i64 n, .int .i64 e]) (w : World) : Calls Tryz.prog 15 #[.string s] w fun r w' => r = .returned (.tuple #[.int .i64 n, .int .i64 e]) ∧ Below w.heap.size w w' := by
  have := first_any s w
  rw [h] at this
  exact this
theorem hv_ok {l : List UInt8} {n : Nat} (h1 : hdE l = 0) (h2 : hdF l = n) : hdV l = .tuple #[.int .i64 n, .int .i64 0] := by unfold hdV; rw [if_pos h1, h2]
theorem hv_bad {l : List UInt8} {n : Nat} (h : hdE l = n) (hn : n ≠ 0) : hdV l = .tuple #[.int .i64 0, .int .i64 n] := by unfold hdV; rw [if_neg (by omega), h]
theorem hv_last : hdV (bs (hdrL 1048576)).data.toList = .tuple #[.int .i64 1048576, .int .i64 0] := by
  rw [bs_data]
  have h := hd_made 1048576 [] (by omega)
  rw [List.append_nil] at h
  exact hv_ok h.1 h.2
theorem hv_short {l : List UInt8} (h : l.length < 16) : hdV l = .tuple #[.int .i64 0, .int .i64 8] := hv_bad (n := 8) (by unfold hdE; rw [if_pos h]) (by decide)
theorem hv_two : hdV (⟨#[115, 101, 103, 50, 120, 120, 120, 120, 120, 120, 120, 120, 120, 120, 120, 120]⟩ : ByteArray).data.toList = .tuple #[.int .i64 0, .int .i64 4] := hv_bad (n := 4) (by decide) (by decide)
theorem hv_sum : hdV (⟨#[115, 101, 103, 49, 120, 120, 120, 120, 120, 120, 120, 120, 120, 120, 120, 120]⟩ : ByteArray).data.toList = .tuple #[.int .i64 0, .int .i64 42] := hv_bad (n := 42) (by decide +kernel) (by decide)
theorem hv_far : hdV (bs (sealL (⟨#[115, 101, 103, 49, 0, 0, 0, 0, 0, 16, 0, 1]⟩ : ByteArray).data.toList)).data.toList = .tuple #[.int .i64 0, .int .i64 4] := by
  rw [bs_data]
  exact hv_bad (n := 4) (by decide +kernel) (by decide)
theorem strs1 (w : World) (s : ByteArray) (hs : s.size ≤ 1000) : StrsIn (w.alloc (.cells #[.string s] 9)) (some ⟨w.heap.size, 0, none⟩) 1 1 [s] := by
  refine ⟨rfl, Nat.le_refl _, by decide, fun x hx => ?_, .inr ⟨_, 0, rfl, by simp, fun j hj => ?_⟩⟩
  · rw [List.mem_singleton.1 hx]; omega
  · obtain rfl : j = 0 := by omega
    rw [Nat.zero_add, World.cell?_alloc_new]
    rfl
theorem join1_to (f : Int) (s : ByteArray) (hs : s.size ≤ 1000) (E : Int) (hE : ((jnE f (paysL [s]) : Nat) : Int) = E) (w : World) :
    Calls Tryz.prog 16 #[.int .i64 f, .slice (some ⟨w.heap.size, 0, none⟩) 1 1] (w.alloc (.cells #[.string s] 9)) fun e w' => (∃ S, e = .returned (.tuple #[.string S, .int .i64 E])) ∧ Below w.heap.size w w' := by
  refine (join_any f [s] _ (strs1 w s hs)).mono ?_
  rintro e w' ⟨rfl, hb⟩
  rw [hE]
  exact ⟨⟨_, rfl⟩, ((Below.refl _ _).alloc (Nat.le_refl _) _).trans (hb.mono (by simp))⟩
theorem split_to {len cap : Nat} {oa : Option Addr} (f most : Int) (z : List ByteArray) (E : Nat) (N : Nat) (hE : spE f z most = E) (hN : (spO f z most).length = N) (hm : -9223372036854775808 ≤ most ∧ most ≤ 9223372036854775807) (w : World) (h : StrsIn w oa len cap z) :
    Calls Tryz.prog 17 #[.int .i64 f, .slice oa len cap, .int .i64 most] w fun e w' => (∃ o c, e = .returned (.tuple #[.slice o N c, .int .i64 E])) ∧ Below w.heap.size w w' := by
  refine (split_any f most z w h hm).mono ?_
  rintro e w' ⟨o, c, rfl, _, hb⟩
  rw [hE, hN]
  exact ⟨⟨o, c, rfl⟩, hb⟩
theorem name_to (g n : Int) (s : ByteArray) (h : nmS g n = s) (w : World) (hP : PowT w) : Calls Tryz.prog 19 #[.int .i64 g, .int .i64 n] w fun e w' => e = .returned (.string s) ∧ Below w.heap.size w w' := by
  have := name_any g n w hP
  rw [h] at this
  exact this
theorem nm_none {g n : Int} (h : ¬ ((0 ≤ g ∧ g ≤ 99999999) ∧ (0 ≤ n ∧ n ≤ 1048576))) : nmS g n = ⟨#[]⟩ := by unfold nmS; rw [if_neg h]
theorem nm_top : nmS 99999999 1048576 = ⟨#[115, 57, 57, 57, 57, 57, 57, 57, 57, 45, 48, 48, 48, 49, 48, 52, 56, 53, 55, 54]⟩ := by
  unfold nmS
  rw [if_pos (by omega)]
  have : namL (99999999 : Int).toNat (1048576 : Int).toNat = [115, 57, 57, 57, 57, 57, 57, 57, 57, 45, 48, 48, 48, 49, 48, 52, 56, 53, 55, 54] := by decide
  rw [this]
  rfl
/-- the payload of 4096 noughts -/
def zerL : List UInt8 := List.replicate 4096 0
def zerS : ByteArray := ⟨zerL.toArray⟩
theorem zer_size : zerS.size = 4096 := by
  show zerL.toArray.size = 4096
  rw [List.size_toArray]
  exact List.length_replicate
theorem zer_len : zerS.data.toList.length = 4096 := zer_size
theorem zer_ok : payOk zerS.data.toList := by unfold payOk; rw [zer_len]; omega
def zerZ : List ByteArray := List.replicate 300 zerS
theorem zz_len : zerZ.length = 300 := List.length_replicate
theorem zz_bad : ¬ ∃ p ∈ zerZ, ¬ payOk p.data.toList := by
  rintro ⟨p, hp, hn⟩
  unfold zerZ at hp
  rw [List.eq_of_mem_replicate hp] at hn
  exact hn zer_ok
theorem zz_pays : (paysL zerZ).map List.length = List.replicate 300 4096 := by
  unfold paysL zerZ
  rw [List.map_map, List.map_replicate]
  show List.replicate 300 zerS.data.toList.length = _
  rw [zer_len]
theorem size_rep (l : List UInt8) : ∀ n, sizeF (List.replicate n l) = n * (16 + l.length)
  | 0 => by simp [sizeF]
  | n + 1 => by
    rw [List.replicate_succ]
    show 16 + l.length + sizeF (List.replicate n l) = _
    rw [size_rep l n, Nat.add_mul]
    omega
theorem zz_size : sizeF (paysL zerZ) = 1233600 := by
  unfold paysL zerZ
  rw [List.map_replicate, size_rep, zer_len]
theorem zz_join : jnE 0 (paysL zerZ) = 40 := by
  unfold jnE
  rw [if_neg (by omega), pays_len, zz_len, if_neg (fun h => zz_bad ((pays_mem _).1 h)), if_neg (by omega), zz_size, if_pos (by omega)]
theorem zz_E : spE 0 zerZ 65536 = 0 := by
  unfold spE
  rw [if_neg (by omega)]
  unfold wrE
  rw [if_neg zz_bad, zz_len, if_neg (by omega)]
theorem zz_N : (spO 0 zerZ 65536).length = 20 := by
  unfold spO
  rw [if_pos zz_E]
  unfold spB
  rw [List.length_map, spL_count, zz_pays]
  decide +kernel
theorem e_63 : spE 0 [] 63 = 1 := by unfold spE; rw [if_pos (by omega)]
theorem e_37 : spE 0 [] 65537 = 1 := by unfold spE; rw [if_pos (by omega)]
theorem e_64 : spE 7 [] 64 = 0 := by
  unfold spE
  rw [if_neg (by omega)]
  decide
theorem n_bad {f most : Int} {z : List ByteArray} (h : spE f z most ≠ 0) : (spO f z most).length = 0 := by unfold spO; rw [if_neg h]; rfl
theorem n_64 : (spO 7 [] 64).length = 1 := by
  unfold spO
  rw [if_pos e_64]
  rfl
/-- the row of 300, so many of them written -/
def lgL (k : Nat) : List ByteArray := List.replicate k zerS ++ List.replicate (300 - k) ⟨#[]⟩
theorem lg_set (k : Nat) (h : k < 300) : (stRow (lgL k)).set k (.string zerS) = stRow (lgL (k + 1)) := by
  unfold stRow lgL
  rw [List.map_append, List.map_append, List.map_replicate, List.map_replicate, List.map_replicate, List.map_replicate]
  rw [show 300 - k = (300 - (k + 1)) + 1 by omega, List.replicate_succ (n := 300 - (k + 1)), List.set_append_right _ _ (by rw [List.length_replicate]; exact Nat.le_refl _), List.length_replicate, Nat.sub_self, List.set_cons_zero, List.replicate_succ' (n := k), List.append_assoc]
  rfl
theorem lg_at (k : Nat) (h : k < 300) : (stRow (lgL k))[k]? = some (.string ⟨#[]⟩) := by
  unfold stRow lgL
  rw [List.getElem?_map, List.getElem?_append_right (by rw [List.length_replicate]; exact Nat.le_refl _), List.length_replicate, Nat.sub_self, List.getElem?_replicate, if_pos (by omega)]
  rfl
theorem mk_long (w : World) : ∃ W, (Instr.makeSlice 23 (.int .i64 300) (.int .i64 300)).run Tryz.prog w = .ok (.slice (some ⟨w.heap.size, 0, none⟩) 300 300) W ∧ W.ownsRow w.heap.size 9 1 (.slice (some ⟨w.heap.size, 0, none⟩) 300 300) 300 (stRow (lgL 0)) ∧ Below w.heap.size w W := by
  obtain ⟨i0, hi, hz0, hz1, hz2⟩ := info_parts infoS
  obtain ⟨W, h1, h2, h3⟩ := run_make_full (P := Tryz.prog) w w.heap.size 23 9 i0 (.string ⟨#[]⟩) 1 Tryz.underlying23 hi hz0 hz1 .i64 .i64 300 (by rw [hz2]; omega) (by decide) (Nat.le_refl _)
  refine ⟨W, h1, ?_, (Below.refl _ _).grown h3 (Nat.le_refl _) (fun k hk => by cases hk)⟩
  have e : (madeCells (Value.string ⟨#[]⟩).cells (300 * 1)).toList = stRow (lgL 0) := by
    rw [show (Value.string ⟨#[]⟩).cells = #[.string ⟨#[]⟩] from rfl, toList_madeCells_one]
    unfold stRow lgL
    rw [List.map_append, List.map_replicate, List.map_replicate]
    rfl
  rw [e] at h2
  exact h2
theorem mk_bytes_n (n : Nat) (hn : n ≤ 1000000) (w : World) : ∃ W, (Instr.makeSlice 32 (.int .i64 (n : Int)) (.int .i64 (n : Int))).run Tryz.prog w = .ok (.slice (some ⟨w.heap.size, 0, none⟩) n n) W ∧ (convert 32 9 (.slice (some ⟨w.heap.size, 0, none⟩) n n)).run Tryz.prog W = .ok (.string ⟨(List.replicate n (0 : UInt8)).toArray⟩) W ∧ Below w.heap.size w W := by
  obtain ⟨i0, hi, hz0, hz1, hz2⟩ := info_parts infoU8
  have hm := run_make (P := Tryz.prog) w 32 5 i0 (.int .u8 0) Tryz.underlying32 hi hz0 .i64 .i64 n n (by omega) (Int.le_refl _) (by rw [hz2]; omega) (by omega)
  rw [hz1, Int.toNat_natCast, Nat.mul_one] at hm
  refine ⟨_, hm, ?_, (Below.refl _ _).alloc (Nat.le_refl _) _⟩
  have hb0 : bytesAt (w.alloc (.cells (madeCells (Value.int .u8 0).cells n) 5)) w.heap.size (List.replicate n 0) := by
    refine ⟨_, 0, 0, heap_alloc_new _ _, Or.inr rfl, ?_⟩
    intro j hj
    rw [List.length_replicate] at hj
    have e : nth (List.replicate n 0) j = 0 := by unfold nth; simp [hj]
    rw [e]
    have hj1 : j % 1 = 0 := Nat.mod_one j
    simp [madeCells, hj, Value.cells, hj1]
  exact hb0.conv n n List.length_replicate
theorem mk_bytes (w : World) : ∃ W, (Instr.makeSlice 32 (.int .i64 4096) (.int .i64 4096)).run Tryz.prog w = .ok (.slice (some ⟨w.heap.size, 0, none⟩) 4096 4096) W ∧ (convert 32 9 (.slice (some ⟨w.heap.size, 0, none⟩) 4096 4096)).run Tryz.prog W = .ok (.string zerS) W ∧ Below w.heap.size w W := mk_bytes_n 4096 (by omega) w
end Go.Proofs.YtaonjbkkgeiniaaGreatDoor
