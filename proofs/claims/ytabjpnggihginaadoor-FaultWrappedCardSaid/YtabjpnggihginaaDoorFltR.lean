/- internal/strconv.FormatInt at base 10 over ANY table of twenty words: it tells some text (fmF), the same each time. -/
import Derived.Test.YtabjpnggihginaaDoorFltK
import Derived.Test.YtabjpnggihginaaDoorFltQ
import Derived.Test.YtabjpnggihginaaDoorShelf
import Derived.Lib.ItoaMem
import Derived.Lib.ItoaLen
import Derived.Lib.AppendIntMem
import Derived.Shelf.Vars
namespace Go.Proofs.YtabjpnggihginaaDoor
open Go.RowKit Go.Shelf Go.Sort Go.Lib

theorem fb10_any (blk off cap : Nat) (u : Nat) (d : Array UInt8) (w : World) (hH : Holds (fun (b : UInt8) => Value.int .u8 (b.toNat : Int)) w blk off d) (hu64 : u < 18446744073709551616) (hsz : d.size < 4611686018427387904) :
    Calls Tryd.prog 46 #[.slice (some ⟨blk, off, none⟩) d.size cap, .int .u64 u] w fun e w' =>
      e = .returned (.tuple #[]) ∧ ∃ n : Nat, w' = (putRow (fun (b : UInt8) => Value.int .u8 (b.toNat : Int)) w blk off (finF d.size u d)).drewN n := fb10_lays Tryd.lays285 blk off cap u d w hH hu64 hsz

/-- the twenty words of internal/strconv.uint64pow10, whatever they are -/
def TabA (w : World) (T : Nat → Nat) : Prop := ∀ j, j < 20 → w.cell? ⟨2, j, none⟩ = some (.int .u64 (T j : Int))
theorem TabA.keep {w w' : World} {T : Nat → Nat} (h : TabA w T) (hb : Below w.heap.size w w') : TabA w' T := fun j hj =>
  (hb.cell (p := ⟨2, j, none⟩) (World.block_lt_of_cell? _ _ (h j hj))).trans (h j hj)

/-- how many digits numDigits tells -/
def ndF (T : Nat → Nat) (u : Nat) : Nat := Lib.l10 (Lib.bitLen u) + (if T (Lib.l10 (Lib.bitLen u)) ≤ u then 1 else 0)

set_option maxHeartbeats 2000000 in
set_option maxRecDepth 100000 in
theorem nd_any (T : Nat → Nat) (u : Nat) (h1 : 1 ≤ u) (h2 : u < 18446744073709551616) (w : World) (ht : TabA w T) :
    Calls Tryd.prog 45 #[.int .u64 u] w fun e w' => e = .returned (.int .i64 (ndF T u)) ∧ w' = w := by
  obtain ⟨_, h19⟩ := Lib.numDigits_eq u h1 h2
  have hL : Lib.bitLen u ≤ 64 := Lib.bitLen_le u 64 (Nat.le_refl _) h2
  have hcell := ht _ (show Lib.l10 (Lib.bitLen u) < 20 by omega)
  have hto : ((u : Int)).toNat = u := by omega
  have HN := Lib.hid (show ndF T u = Lib.l10 (Lib.bitLen u) + (if T (Lib.l10 (Lib.bitLen u)) ≤ u then 1 else 0) from rfl)
  generalize ndF T u = R at HN ⊢
  have HLog := Lib.hid (fun w => Tryd.internal_strconv_log10Pow2 (Lib.bitLen u) hL w)
  have HLen := Lib.hid (fun w => Tryd.bits_Len64 (u : Int) w (by omega) (by omega))
  rw [hto] at HLen
  generalize hq : Lib.l10 (Lib.bitLen u) = q at h19 hcell HN HLog
  generalize hT : T q = t at hcell HN
  generalize hB : Lib.bitLen u = B at hL HLog HLen
  have h20 : q < 20 := by omega
  clear ht hq hT hto hB
  go_enter Tryd.func45, Tryd.ntmps45
  go_wp2_with fail
  refine (HLen.out _).mono ?_
  rintro e w1 ⟨rfl, rfl⟩
  go_wp2_with fail
  refine (HLog.out _).mono ?_
  rintro e w1 ⟨rfl, rfl⟩
  by_cases hc : t ≤ u
  · have d1 : decide ((t : Int) ≤ (u : Int)) = true := decide_eq_true (by omega)
    go_wp2_with fail
    refine (Tryd.internal_strconv_bool2_int _ _).mono ?_
    rintro e w1 ⟨rfl, rfl⟩
    go_wp2_with fail
    go_ret
    have h := HN.out
    rw [if_pos hc] at h
    exact ⟨by rw [h]; rfl, rfl⟩
  · have d1 : decide ((t : Int) ≤ (u : Int)) = false := decide_eq_false (by omega)
    go_wp2_with fail
    refine (Tryd.internal_strconv_bool2_int _ _).mono ?_
    rintro e w1 ⟨rfl, rfl⟩
    go_wp2_with fail
    go_ret
    have h := HN.out
    rw [if_neg hc] at h
    exact ⟨by rw [h]; rfl, rfl⟩

/-- the digits that formatBase10 writes where numDigits has told how many -/
def dgA (T : Nat → Nat) (u : Nat) : Array UInt8 := finF (ndF T u) u (Array.replicate (ndF T u) 0)
theorem dgA_size (T : Nat → Nat) (u : Nat) : (dgA T u).size = ndF T u := by unfold dgA; rw [finF_size, Array.size_replicate]
/-- what FormatInt tells at base 10 -/
def fmF (T : Nat → Nat) (n : Int) : ByteArray :=
  if 0 ≤ n ∧ n < 100 then ⟨(Lib.decDigits n.toNat).toArray⟩
  else if n < 0 then ⟨(45 :: (dgA T n.natAbs).toList).toArray⟩
  else ⟨dgA T n.natAbs⟩
theorem ndF_le (T : Nat → Nat) (u : Nat) (h1 : 1 ≤ u) (h2 : u < 18446744073709551616) : ndF T u ≤ 20 := by
  have := (Lib.numDigits_eq u h1 h2).2
  unfold ndF
  split <;> omega
theorem fmF_size (T : Nat → Nat) (n : Int) (h0 : -9223372036854775808 ≤ n) (h1 : n ≤ 9223372036854775807) : (fmF T n).size ≤ 21 := by
  unfold fmF
  split
  · rename_i h
    show ((Lib.decDigits n.toNat).toArray).size ≤ 21
    have hh : (Lib.itoa (n.toNat : Int)).length ≤ 21 := Lib.itoa_length_le _ (by omega) (by omega)
    rw [Lib.itoa_nonneg] at hh
    simpa using hh
  · rename_i h
    have := ndF_le T n.natAbs (by omega) (by omega)
    split
    · show ((45 :: (dgA T n.natAbs).toList).toArray).size ≤ 21
      simp [dgA_size]
      omega
    · show (dgA T n.natAbs).size ≤ 21
      rw [dgA_size]
      omega

set_option maxHeartbeats 6400000 in
set_option maxRecDepth 100000 in
theorem fmt_tabA (T : Nat → Nat) (n : Int) (h0 : -9223372036854775808 ≤ n) (h1 : n ≤ 9223372036854775807) (w : World) (ht : TabA w T) :
    Calls Tryd.prog 41 #[.int .i64 n, .int .i64 10] w fun e w' => e = .returned (.string (fmF T n)) ∧ Below w.heap.size w w' := by
  have mixed : Tryd.prog.follows Departure.mixedOrders = true := by kernel_rfl
  by_cases hs : 0 ≤ n ∧ n < 100
  · obtain ⟨i, rfl⟩ : ∃ i : Nat, n = i := ⟨n.toNat, by omega⟩
    refine (Tryd.internal_strconv_FormatInt_10_small i (by omega) w).mono ?_
    rintro e w' ⟨rfl, rfl⟩
    refine ⟨?_, Below.refl _ _⟩
    unfold fmF
    rw [if_pos hs]
    rfl
  · by_cases hneg : n < 0
    · obtain ⟨u, rfl⟩ : ∃ u : Nat, n = -(u : Int) := ⟨n.natAbs, by omega⟩
      have hu1 : 1 ≤ u := by omega
      have hu64 : u < 18446744073709551616 := by omega
      have hF : fmF T (-(u : Int)) = ⟨(45 :: (dgA T u).toList).toArray⟩ := by
        unfold fmF
        rw [if_neg hs, if_pos hneg, show (-(u : Int)).natAbs = u by omega]
      rw [hF]
      have hdz := dgA_size T u
      have hfe : finF (ndF T u) u (Array.replicate (ndF T u) 0) = dgA T u := rfl
      have hnd20 := ndF_le T u hu1 hu64
      have hwr : IntKind.u64.wrap (-IntKind.u64.wrap (-(u : Int))) = (u : Int) := by rw [IntKind.wrap_u64, IntKind.wrap_u64]; omega
      have HND := Lib.hid (fun W hW => nd_any T u hu1 hu64 W (ht.keep (w' := W) hW))
      have hH0 := Lib.holds_zero w 101 (ndF T u) (by omega)
      have hfmt := fb10_any w.heap.size 1 23 u (Array.replicate (ndF T u) 0) (w.alloc (.cells Lib.zeros24 101)) hH0 hu64 (by rw [Array.size_replicate]; omega)
      rw [Array.size_replicate, hfe] at hfmt
      generalize dgA T u = dk at hdz hfmt hF ⊢
      clear hfe
      generalize ndF T u = nd at hdz hnd20 HND hH0 hfmt
      have hal : Tryd.prog.arrayLen 101 = 24 := by simp [Program.arrayLen, Tryd.underlying101]
      have hsl1 : ∀ W, (Instr.sliceAt 101 (.pointer (some ⟨w.heap.size, 0, none⟩)) (some (.int .i64 1)) (some (.int .i64 (1 + (nd : Int)))) none).run Tryd.prog W = .ok (.slice (some ⟨w.heap.size, 1, none⟩) nd 23) W := fun W => by
        rw [run_sliceAt_array_lh W 101 ⟨w.heap.size, 0, none⟩ (by simp [Program.arrayLen, Program.elem, Tryd.underlying101]) .i64 .i64 1 (1 + (nd : Int)) (by omega) (by omega) (by rw [hal]; omega)]
        go_simp
        omega
      have HH0 := Lib.hid hH0
      have HF := Lib.hid hfmt
      have HT := Lib.hid ht
      clear hH0 hal hfmt ht hF
      go_enter Tryd.func41, Tryd.ntmps41
      go_wp2_with fail
      refine (HND.out _ ((Below.refl _ _).alloc (Nat.le_refl _) _)).mono ?_
      rintro e w' ⟨rfl, rfl⟩
      go_wp2_with fail
      refine HF.out.mono ?_
      rintro e w' ⟨rfl, k, rfl⟩
      have hc0 : ((putRow (fun (b : UInt8) => Value.int .u8 (b.toNat : Int)) (w.alloc (.cells Lib.zeros24 101)) w.heap.size 1 dk).drewN k).cell? ⟨w.heap.size, 0, none⟩ = some (.int .u8 0) := by
        rw [World.cell?_drewN, cell?_putRow_other _ _ _ _ _ _ (Or.inr (Or.inl (Nat.zero_lt_one))), World.cell?_alloc_new]
        exact Lib.zeros24_at 0 (by omega)
      have hf0 : ((putRow (fun (b : UInt8) => Value.int .u8 (b.toNat : Int)) (w.alloc (.cells Lib.zeros24 101)) w.heap.size 1 dk).drewN k).frozen? ⟨w.heap.size, 0, none⟩ = false := by
        rw [World.frozen?_drewN, frozen?_putRow]
        exact World.frozen?_alloc_new _ _ _ _
      have hal : Tryd.prog.arrayLen 101 = 24 := by simp [Program.arrayLen, Tryd.underlying101]
      have hsl2 : ∀ W, (Instr.sliceAt 101 (.pointer (some ⟨w.heap.size, 0, none⟩)) none (some (.int .i64 (1 + (nd : Int)))) none).run Tryd.prog W = .ok (.slice (some ⟨w.heap.size, 0, none⟩) (1 + nd) 24) W := fun W => by
        rw [run_sliceAt_array_h W 101 ⟨w.heap.size, 0, none⟩ (by simp [Program.arrayLen, Program.elem, Tryd.underlying101]) .i64 (1 + (nd : Int)) (by omega) (by rw [hal]; omega)]
        go_simp
        omega
      clear hal
      have hcv : (convert 65 9 (.slice (some ⟨w.heap.size, 0, none⟩) (1 + nd) 24)).run Tryd.prog (((putRow (fun (b : UInt8) => Value.int .u8 (b.toNat : Int)) (w.alloc (.cells Lib.zeros24 101)) w.heap.size 1 dk).drewN k).setCell ⟨w.heap.size, 0, none⟩ (.int .u8 45)) = .ok (.string ⟨(45 :: dk.toList).toArray⟩) (((putRow (fun (b : UInt8) => Value.int .u8 (b.toNat : Int)) (w.alloc (.cells Lib.zeros24 101)) w.heap.size 1 dk).drewN k).setCell ⟨w.heap.size, 0, none⟩ (.int .u8 45)) := by
        have h := run_convert_bytes_back (P := Tryd.prog) (((putRow (fun (b : UInt8) => Value.int .u8 (b.toNat : Int)) (w.alloc (.cells Lib.zeros24 101)) w.heap.size 1 dk).drewN k).setCell ⟨w.heap.size, 0, none⟩ (.int .u8 45)) 65 9 5 ⟨w.heap.size, 0, none⟩ 24 (45 :: dk.toList) Tryd.underlying65 Tryd.underlying5 Tryd.underlying9 (fun j hj => by
          rw [Lib.add_plain]
          cases j with
          | zero => exact World.cell?_setCell_same _ _ _ hc0
          | succ i =>
            have hi : i < dk.size := by simpa using hj
            have hb : dk.toList[i]'(by simpa using hi) = dk[i]! := by rw [Array.getElem_toList, getElem!_pos dk i hi]
            rw [World.cell?_setCell_other _ _ _ _ (by simp), List.getElem_cons_succ, hb, World.cell?_drewN, show 0 + (i + 1) = 1 + i by omega]
            exact cell?_putRow (fun (b : UInt8) => Value.int .u8 (b.toNat : Int)) _ w.heap.size 1 _ dk HH0.out (by rw [Array.size_replicate]; exact hdz) i hi)
        rw [List.length_cons, Array.length_toList, hdz, Nat.add_comm] at h
        exact h
      go_wp2_with fail
      go_ret
      obtain ⟨os, eo⟩ := Lib.fin_neg w (.cells Lib.zeros24 101) dk k (.int .u8 45)
      refine ⟨rfl, ?_⟩
      rw [eo]
      exact Lib.below_grow _ _ (Nat.le_refl _) _ _
    · obtain ⟨u, rfl⟩ : ∃ u : Nat, n = u := ⟨n.toNat, by omega⟩
      have hu1 : 1 ≤ u := by omega
      have hu64 : u < 18446744073709551616 := by omega
      have hF : fmF T (u : Int) = ⟨dgA T u⟩ := by
        unfold fmF
        rw [if_neg hs, if_neg hneg, show ((u : Int)).natAbs = u by omega]
      rw [hF]
      have hdz := dgA_size T u
      have hfe : finF (ndF T u) u (Array.replicate (ndF T u) 0) = dgA T u := rfl
      have hnd20 := ndF_le T u hu1 hu64
      have HND := Lib.hid (fun W hW => nd_any T u hu1 hu64 W (ht.keep (w' := W) hW))
      have hH0 := Lib.holds_zero w 101 (ndF T u) (by omega)
      have hfmt := fb10_any w.heap.size 1 23 u (Array.replicate (ndF T u) 0) (w.alloc (.cells Lib.zeros24 101)) hH0 hu64 (by rw [Array.size_replicate]; omega)
      rw [Array.size_replicate, hfe] at hfmt
      generalize dgA T u = dk at hdz hfmt hF ⊢
      clear hfe
      generalize ndF T u = nd at hdz hnd20 HND hH0 hfmt
      have hal : Tryd.prog.arrayLen 101 = 24 := by simp [Program.arrayLen, Tryd.underlying101]
      have hsl1 : ∀ W, (Instr.sliceAt 101 (.pointer (some ⟨w.heap.size, 0, none⟩)) (some (.int .i64 1)) (some (.int .i64 (1 + (nd : Int)))) none).run Tryd.prog W = .ok (.slice (some ⟨w.heap.size, 1, none⟩) nd 23) W := fun W => by
        rw [run_sliceAt_array_lh W 101 ⟨w.heap.size, 0, none⟩ (by simp [Program.arrayLen, Program.elem, Tryd.underlying101]) .i64 .i64 1 (1 + (nd : Int)) (by omega) (by omega) (by rw [hal]; omega)]
        go_simp
        omega
      have HH0 := Lib.hid hH0
      have HF := Lib.hid hfmt
      clear hH0 hal hfmt ht hF
      go_enter Tryd.func41, Tryd.ntmps41
      go_wp2_with fail
      refine (HND.out _ ((Below.refl _ _).alloc (Nat.le_refl _) _)).mono ?_
      rintro e w' ⟨rfl, rfl⟩
      go_wp2_with fail
      refine HF.out.mono ?_
      rintro e w' ⟨rfl, k, rfl⟩
      have hcv : (convert 65 9 (.slice (some ⟨w.heap.size, 1, none⟩) nd 23)).run Tryd.prog ((putRow (fun (b : UInt8) => Value.int .u8 (b.toNat : Int)) (w.alloc (.cells Lib.zeros24 101)) w.heap.size 1 dk).drewN k) = .ok (.string ⟨dk⟩) ((putRow (fun (b : UInt8) => Value.int .u8 (b.toNat : Int)) (w.alloc (.cells Lib.zeros24 101)) w.heap.size 1 dk).drewN k) := by
        have h := run_convert_bytes_back (P := Tryd.prog) ((putRow (fun (b : UInt8) => Value.int .u8 (b.toNat : Int)) (w.alloc (.cells Lib.zeros24 101)) w.heap.size 1 dk).drewN k) 65 9 5 ⟨w.heap.size, 1, none⟩ 23 dk.toList Tryd.underlying65 Tryd.underlying5 Tryd.underlying9 (fun j hj => by
          have hi : j < dk.size := by simpa using hj
          have hb : dk.toList[j] = dk[j]! := by rw [Array.getElem_toList, getElem!_pos dk j hi]
          rw [hb, Lib.add_plain, World.cell?_drewN]
          exact cell?_putRow (fun (b : UInt8) => Value.int .u8 (b.toNat : Int)) _ w.heap.size 1 _ dk HH0.out (by rw [Array.size_replicate]; exact hdz) j hi)
        rw [Array.length_toList, hdz] at h
        exact h
      go_wp2_with fail
      go_ret
      obtain ⟨os, eo⟩ := Lib.fin_pos w (.cells Lib.zeros24 101) dk k
      refine ⟨rfl, ?_⟩
      rw [eo]
      exact Lib.below_grow _ _ (Nat.le_refl _) _ _
end Go.Proofs.YtabjpnggihginaaDoor
