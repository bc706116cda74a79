/- Walks over the references soukref02 (Reader.Fixed) and soukref10 (number, Read). -/
import Derived.Test.YtkgcjelipllpdaaRef10
import Derived.Test.YtkgcjelipllpdaaFrameLaw2
import Derived.Deep.DeepCutAuto
import Derived.WalkSmall
namespace Go.Proofs.Ytkgcjelipllpdaa
open Go.RowKit

/-- a reader of the reference -/
def rdr (s : ByteArray) (a : Nat) : Array Value := #[.string s, .int .i64 a, .int .i64 0, .int .i64 0]
theorem rdr_cells {w : World} {b a : Nat} {s : ByteArray} (h : w.heap[b]? = some (.cells (rdr s a) 88)) :
    w.cell? ⟨b, 0, none⟩ = some (.string s) ∧ w.cell? ⟨b, 1, none⟩ = some (.int .i64 a) ∧ w.cell? ⟨b, 2, none⟩ = some (.int .i64 0) ∧ w.frozen? ⟨b, 1, none⟩ = false :=
  ⟨by rw [cell_of_row _ _ _ _ _ _ h]; rfl, by rw [cell_of_row _ _ _ _ _ _ h]; rfl, by rw [cell_of_row _ _ _ _ _ _ h]; rfl, frozen_of_row _ _ _ _ _ h⟩
theorem sl_succ (l : List UInt8) (a k : Nat) (h : a + k < l.length) : sl l a (k + 1) = sl l a k ++ [l[a + k]] := by
  unfold sl
  rw [List.take_succ_eq_append_getElem (by rw [List.length_drop]; omega), List.getElem_drop]

theorem num_next (s : ByteArray) (a j c N : Nat) (hc : a + j = c) (h : c < s.size) (h8 : j < 8) (hN : num (sl s.data.toList a j) = N) :
    IntKind.u64.wrap (IntKind.u64.wrap ((N : Int) * 256) + IntKind.u64.wrap (s[c].toNat : Int)) = ((num (sl s.data.toList a (j + 1)) : Nat) : Int) := by
  subst hc
  have h1 := num_lt (sl s.data.toList a j)
  have h2 : (sl s.data.toList a j).length ≤ 7 := Nat.le_trans (sl_len _ _ _) (by omega)
  have h3 : 256 ^ (sl s.data.toList a j).length ≤ 256 ^ 7 := Nat.pow_le_pow_right (by omega) h2
  have hb := b8lt s[a + j]
  rw [sl_succ s.data.toList a j h, num_snoc, hN]
  rw [hN] at h1
  have e : s.data.toList[a + j] = s[a + j] := rfl
  have q1 : IntKind.u64.wrap ((N : Int) * 256) = (N : Int) * 256 := IntWalk.u64_in _ (by omega)
  have q2 : IntKind.u64.wrap (s[a + j].toNat : Int) = (s[a + j].toNat : Int) := IntWalk.u64_in _ (by omega)
  rw [e, q1, q2, IntWalk.u64_in _ (by omega)]
  omega

set_option maxHeartbeats 1000000 in
theorem rdfix_any (s : ByteArray) (a k : Nat) (b : Nat) (w : World) (hs : s.size ≤ 1000000) (hk : k ≤ 8) (ha : a + k ≤ s.size) (hb : w.heap[b]? = some (.cells (rdr s a) 88)) :
    Calls Try.prog 45 #[.pointer (some ⟨b, 0, none⟩), .int .i64 k] w fun e w' => e = .returned (.int .u64 (num (sl s.data.toList a k))) ∧ Below b w w' ∧ w.heap.size ≤ w'.heap.size := by
  obtain ⟨c0, c1, c2, f1⟩ := rdr_cells hb
  have hbz : b < w.heap.size := (Array.getElem?_eq_some_iff.1 hb).1
  have d1 : decide ((s.size : Int) - (a : Int) < (k : Int)) = false := decide_eq_false (by omega)
  have hw : IntKind.i64.wrap ((s.size : Int) - (a : Int)) = (s.size : Int) - (a : Int) := IntWalk.i64_in _ (by omega)
  clear hb
  go_enter Try.func45, Try.ntmps45
  go_wp2_with fail
  go_quiet (fail)
  go_wp2_with fail
  go_loopw [5, 6] (fun n i W => ∃ j : Nat, j ≤ k ∧ i = .int .i64 j ∧ n = .int .u64 (num (sl s.data.toList a j)) ∧ Below w.heap.size w W) (fun _ i _ => k - (intOf i).toNat)
  case atStart => exact ⟨0, Nat.zero_le _, rfl, rfl, below_drewN (Below.refl _ _) _⟩
  case round =>
    obtain ⟨j, hj, rfl, rfl, hbl⟩ := hrel
    have HB := Lib.hid hbl
    have e0 := (hbl.cell (p := ⟨b, 0, none⟩) hbz).trans c0
    have e1 := (hbl.cell (p := ⟨b, 1, none⟩) hbz).trans c1
    have g1 := (hbl.frozen (p := ⟨b, 1, none⟩) hbz).trans f1
    clear hbl
    by_cases hlt : j < k
    · have HC := Lib.hid c0
      have hd : decide ((j : Int) < (k : Int)) = true := decide_eq_true (by omega)
      obtain ⟨c, ec⟩ : ∃ c, a + j = c := ⟨_, rfl⟩
      have hs1 : IntKind.i64.wrap ((a : Int) + (j : Int)) = (c : Int) := by rw [IntWalk.i64_in _ (by omega)]; omega
      have hlt2 : c < s.size := by omega
      have hlt3 : (c : Int) < (s.size : Int) := by omega
      have hlt4 : (0 : Int) ≤ (c : Int) := by omega
      have EC := Lib.hid ec
      clear ec
      clear c0 c1 f1
      obtain ⟨N, eN⟩ : ∃ N, num (sl s.data.toList a j) = N := ⟨_, rfl⟩
      rw [eN]
      have EN := Lib.hid eN
      clear eN
      go_wp2_with fail
      go_quiet (fail)
      go_wp2_with fail
      go_roundw
      case rel =>
        refine ⟨j + 1, by omega, by go_num, ?_, below_drewN HB.out _⟩
        exact val_int (num_next s a j c N EC.out hlt2 (by omega) EN.out)
      case measure => simp [intOf]; omega
    · obtain rfl : j = k := by omega
      go_wp2_with fail
      go_ret
      have hbz2 := HB.out.size
      exact ⟨rfl, (show Below b w wr from HB.out.mono (by omega)).setCell (p := ⟨b, 1, none⟩) (Nat.le_refl _) _, by simpa using hbz2⟩

set_option maxHeartbeats 400000 in
theorem number_any (s : ByteArray) (a k : Nat) (w : World) (hs : s.size ≤ 1000000) (hk : k ≤ 8) (ha : a + k ≤ s.size) :
    Calls Try.prog 30 #[.string s, .int .i64 a, .int .i64 k] w fun e w' => e = .returned (.int .u64 (num (sl s.data.toList a k))) ∧ Below w.heap.size w w' := by
  have hc := Lib.hid (rdfix_any s a k w.heap.size (w.alloc (.cells (rdr s a) 88)) hs hk ha (heap_alloc_new _ _))
  go_enter Try.func30, Try.ntmps30
  go_wp2_with fail
  refine hc.out.mono ?_
  rintro e w' ⟨rfl, hb, hz⟩
  go_wp2_with fail
  go_ret
  exact ⟨rfl, ((Below.refl _ _).alloc (Nat.le_refl _) _).trans hb⟩

end Go.Proofs.Ytkgcjelipllpdaa
