/- strconv.FormatUint at base 10; money.Show. -/
import Derived.Test.YtikjnfghlohjkaaGreatDoorMonC
import Derived.Lib.AppendIntMem
import Derived.Lib.ItoaLen
import Derived.LaidLaws
import Derived.Deep.RegionHeld3
namespace Go.Proofs.YtikjnfghlohjkaaGreatDoor
open Go.RowKit Go.Shelf Go.Lib Go.Sort

def PowT (w : World) : Prop := Lib.TabIs Tryz.prog w "internal/strconv.uint64pow10" .u64 Lib.pow10Tab
def dg (u : Nat) : ByteArray := ⟨(Lib.decDigits u).toArray⟩
set_option maxHeartbeats 1000000 in
theorem ifmt_any (u : Nat) (hu : u < 18446744073709551616) (w : World) (htab : PowT w) :
    Calls Tryz.prog 47 #[.int .u64 u, .int .i64 10] w fun e w' => e = .returned (.string (dg u)) ∧ Below w.heap.size w w' := by
  by_cases hs : u < 100
  · have d1 : decide ((u : Int) < 100) = true := decide_eq_true (by omega)
    go_enter Tryz.func47, Tryz.ntmps47
    go_wp2_with fail
    refine (Tryz.internal_strconv_small u hs _).mono ?_
    rintro e w1 ⟨rfl, rfl⟩
    go_wp2_with fail
    go_ret
    exact ⟨rfl, Below.refl _ _⟩
  · have d1 : decide ((u : Int) < 100) = false := decide_eq_false (by omega)
    have hu1 : 1 ≤ u := by omega
    have hnd20 : Lib.nDigits u ≤ 20 := by have := Lib.numDigits_eq u hu1 hu; split at this <;> omega
    have hal : Tryz.prog.arrayLen 95 = 24 := by kernel_rfl
    have hsl : ∀ W, (Instr.sliceAt 95 (.pointer (some ⟨w.heap.size, 0, none⟩)) none (some (.int .i64 (Lib.nDigits u : Int))) none).run Tryz.prog W = .ok (.slice (some ⟨w.heap.size, 0, none⟩) (Lib.nDigits u) 24) W := fun W => by
      rw [run_sliceAt_array_h W 95 ⟨w.heap.size, 0, none⟩ (by kernel_rfl) .i64 (Lib.nDigits u : Int) (by omega) (by rw [hal]; omega)]
      go_simp
    have hH0 := Lib.holds_zero0 w 95 (Lib.nDigits u) (by omega)
    have hfmt := Tryz.internal_strconv_formatBase10 w.heap.size 0 24 u (Array.replicate (Lib.nDigits u) 0) (w.alloc (.cells Lib.zeros24 95)) hH0 (by rw [Array.size_replicate]; exact Lib.lt_pow_nDigits u) hu (by rw [Array.size_replicate]; omega)
    rw [Array.size_replicate] at hfmt
    have HN := Lib.hid (Tryz.internal_strconv_numDigits u hu1 hu (w.alloc (.cells Lib.zeros24 95)) (Lib.tabIs_alloc htab _))
    have HH0 := Lib.hid hH0
    have HFM := Lib.hid hfmt
    clear hH0 hal htab hfmt
    go_enter Tryz.func47, Tryz.ntmps47
    go_wp2_with fail
    refine HN.out.mono ?_
    rintro e w1 ⟨rfl, rfl⟩
    go_wp2_with fail
    refine HFM.out.mono ?_
    rintro e w' ⟨rfl, k, v', dk, rfl, hF⟩
    have hcv : (convert 78 9 (.slice (some ⟨w.heap.size, 0, none⟩) (Lib.nDigits u) 24)).run Tryz.prog ((putRow (fun (b : UInt8) => Value.int .u8 (b.toNat : Int)) (w.alloc (.cells Lib.zeros24 95)) w.heap.size 0 dk).drewN k) = .ok (.string (dg u)) ((putRow (fun (b : UInt8) => Value.int .u8 (b.toNat : Int)) (w.alloc (.cells Lib.zeros24 95)) w.heap.size 0 dk).drewN k) := by
      have h := run_convert_bytes_back (P := Tryz.prog) ((putRow (fun (b : UInt8) => Value.int .u8 (b.toNat : Int)) (w.alloc (.cells Lib.zeros24 95)) w.heap.size 0 dk).drewN k) 78 9 5 ⟨w.heap.size, 0, none⟩ 24 (Lib.decDigits u) Tryz.underlying78 Tryz.underlying5 Tryz.underlying9 (fun j hj => by
        rw [Lib.row_is_numeral hF j hj, Lib.add_plain, World.cell?_drewN]
        exact cell?_putRow (fun (b : UInt8) => Value.int .u8 (b.toNat : Int)) _ w.heap.size 0 _ dk HH0.out (by rw [hF.size, Array.size_replicate]) j (by rw [hF.size]; rw [Lib.decDigits_length] at hj; exact hj))
      rw [Lib.decDigits_length] at h
      exact h
    obtain ⟨os, eo⟩ := Lib.fin_at w (.cells Lib.zeros24 95) dk k 0
    have HB := Lib.hid (show Below w.heap.size w ((putRow (fun (b : UInt8) => Value.int .u8 (b.toNat : Int)) (w.alloc (.cells Lib.zeros24 95)) w.heap.size 0 dk).drewN k) by rw [eo]; exact Lib.below_grow _ _ (Nat.le_refl _) _ _)
    clear eo hF HH0 HFM HN
    generalize (putRow (fun (b : UInt8) => Value.int .u8 (b.toNat : Int)) (w.alloc (.cells Lib.zeros24 95)) w.heap.size 0 dk).drewN k = W2 at *
    go_wp2_with fail
    go_ret
    exact ⟨rfl, HB.out⟩
theorem fmt_any (u : Nat) (hu : u < 18446744073709551616) (w : World) (htab : PowT w) :
    Calls Tryz.prog 30 #[.int .u64 u, .int .i64 10] w fun e w' => e = .returned (.string (dg u)) ∧ Below w.heap.size w w' := by
  have H := Lib.hid (ifmt_any u hu w htab)
  clear htab
  go_enter Tryz.func30, Tryz.ntmps30
  go_wp2_with fail
  refine H.out.mono ?_
  rintro e w' ⟨rfl, hb⟩
  have HB := Lib.hid hb
  clear hb
  go_wp2_with fail
  go_ret
  exact ⟨rfl, HB.out⟩
theorem PowT.keep {w w' : World} (h : PowT w) (hb : Below w.heap.size w w') : PowT w' := Lib.tabBelow_of_tabIs h w' hb
theorem PowT.drew {w : World} (h : PowT w) : PowT w.drew := h.keep (Below.refl _ _).drew

theorem dg_size (u : Nat) (h : u < 18446744073709551616) : (dg u).size ≤ 20 ∧ 1 ≤ (dg u).size := by
  have e : (dg u).size = Lib.nDigits u := by unfold dg; show (Lib.decDigits u).toArray.size = _; simp [Lib.decDigits_length]
  rw [e]
  have h1 : (Lib.decDigits 0).length = 1 := by rw [Lib.decDigits_one (by omega)]; rfl
  rw [Lib.decDigits_length] at h1
  by_cases h0 : u = 0
  · subst h0; omega
  · refine ⟨by have := Lib.numDigits_eq u (by omega) h; split at this <;> omega, ?_⟩
    rcases Nat.eq_zero_or_pos (Lib.nDigits u) with h2 | h2
    · have := Lib.lt_pow_nDigits u
      rw [h2] at this
      omega
    · exact h2
theorem bel_undrew {w w1 : World} (h : Below w.drew.heap.size w.drew w1) : Below w.heap.size w w1 := ⟨h.os, h.tape, h.output, h.size, h.block⟩
def sgS (n : Int) : ByteArray := if n < 0 then ⟨#[45]⟩ else ⟨#[]⟩
def shS (n : Int) : ByteArray := sgS n ++ dg (n.natAbs / 100) ++ ⟨#[46]⟩ ++ (dg (100 + n.natAbs % 100)).extract 1 (dg (100 + n.natAbs % 100)).size
set_option maxHeartbeats 1000000 in
theorem show_any (n : Int) (hn : -9223372036854775808 ≤ n ∧ n ≤ 9223372036854775807) (w : World) (htab : PowT w) :
    Calls Tryz.prog 16 #[.int .i64 n] w fun e w' => e = .returned (.string (shS n)) ∧ Below w.heap.size w w' := by
  obtain ⟨u, hu⟩ : ∃ u : Nat, n.natAbs = u := ⟨_, rfl⟩
  have HU := Lib.hid (show shS n = sgS n ++ dg (u / 100) ++ ⟨#[46]⟩ ++ (dg (100 + u % 100)).extract 1 (dg (100 + u % 100)).size by unfold shS; rw [hu])
  obtain ⟨m, hm⟩ : ∃ m : Nat, m = u % 100 := ⟨_, rfl⟩
  obtain ⟨q, hq⟩ : ∃ q : Nat, q = u / 100 := ⟨_, rfl⟩
  obtain ⟨b, hb⟩ : ∃ b, dg (100 + m) = b := ⟨_, rfl⟩
  obtain ⟨a, ha⟩ : ∃ a, dg q = a := ⟨_, rfl⟩
  have hbs := dg_size (100 + m) (by omega)
  have has := dg_size q (by omega)
  have H1 := fmt_any (100 + m) (by omega)
  have H2 := fmt_any q (by omega)
  rw [hb] at H1 hbs
  rw [ha] at H2 has
  rw [← hm, ← hq, ha, hb] at HU
  have E1 : IntKind.u64.wrap (u : Int) = (u : Int) := IntWalk.u64_in _ (by omega)
  have E2 : (u : Int) % 100 = (m : Int) := by omega
  have E3 : (u : Int) / 100 = (q : Int) := by omega
  obtain ⟨x, hx⟩ : ∃ x : Nat, x = 100 + m := ⟨_, rfl⟩
  have E4 : 100 + (m : Int) = (x : Int) := by omega
  rw [← hx] at H1
  have hml : m < 100 := by omega
  have E6 : IntKind.u64.wrap (q : Int) = (q : Int) := IntWalk.u64_in _ (by omega)
  have hul : u ≤ 9223372036854775808 := by omega
  have HP := Lib.hid htab
  clear hm hq hx htab ha hb
  have g0 : (1 : Int) ≤ (b.size : Int) := by omega
  by_cases h0 : n < 0
  · have d1 : decide (n < 0) = true := decide_eq_true h0
    have E5 : IntKind.u64.wrap (-IntKind.u64.wrap n) = (u : Int) := by rw [IntKind.wrap_u64, IntKind.wrap_u64]; omega
    have hs : sgS n = ⟨#[45]⟩ := if_pos h0
    rw [hs] at HU
    have z1 : ¬ 9223372036854775807 < 1 + a.size := by omega
    have z2 : ¬ 9223372036854775807 < 1 + a.size + 1 := by omega
    have z3 : ¬ 9223372036854775807 < 1 + a.size + 1 + (b.size - 1) := by omega
    have z4 : ¬ 9223372036854775807 < a.size := by omega
    have z5 : ¬ 9223372036854775807 < a.size + 1 := by omega
    have z6 : ¬ 9223372036854775807 < a.size + 1 + (b.size - 1) := by omega
    clear hu hn h0 hs
    go_enter Tryz.func16, Tryz.ntmps16
    go_wp2_with fail
    refine (H1 _ HP.out).mono ?_
    rintro e w1 ⟨rfl, hb1⟩
    have HP1 := Lib.hid (HP.out.keep hb1)
    have HB1 := Lib.hid hb1
    clear hb1
    go_wp2_with fail
    go_region_held3 (fun _ => True) (trivial)
      (first | (go_at_call 30; (with_reducible refine (H2 _ HP1.out.drew).mono ?_); rintro e w2 ⟨rfl, hb2⟩))
    go_wp2_with fail
    go_ret
    exact ⟨by rw [HU.out]; rfl, bel_trans HB1.out (bel_undrew hb2)⟩
  · have d1 : decide (n < 0) = false := decide_eq_false h0
    have E5 : IntKind.u64.wrap n = (u : Int) := by rw [IntKind.wrap_u64]; omega
    have hs : sgS n = ⟨#[]⟩ := if_neg h0
    rw [hs] at HU
    have z1 : ¬ 9223372036854775807 < 1 + a.size := by omega
    have z2 : ¬ 9223372036854775807 < 1 + a.size + 1 := by omega
    have z3 : ¬ 9223372036854775807 < 1 + a.size + 1 + (b.size - 1) := by omega
    have z4 : ¬ 9223372036854775807 < a.size := by omega
    have z5 : ¬ 9223372036854775807 < a.size + 1 := by omega
    have z6 : ¬ 9223372036854775807 < a.size + 1 + (b.size - 1) := by omega
    clear hu hn h0 hs
    go_enter Tryz.func16, Tryz.ntmps16
    go_wp2_with fail
    refine (H1 _ HP.out).mono ?_
    rintro e w1 ⟨rfl, hb1⟩
    have HP1 := Lib.hid (HP.out.keep hb1)
    have HB1 := Lib.hid hb1
    clear hb1
    go_wp2_with fail
    go_region_held3 (fun _ => True) (trivial)
      (first | (go_at_call 30; (with_reducible refine (H2 _ HP1.out.drew).mono ?_); rintro e w2 ⟨rfl, hb2⟩))
    go_wp2_with fail
    go_ret
    exact ⟨by rw [HU.out]; rfl, bel_trans HB1.out (bel_undrew hb2)⟩
end Go.Proofs.YtikjnfghlohjkaaGreatDoor
