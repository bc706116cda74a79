/- Walks over the references soukref02 (Fixed, Low, Reader.Fixed) and soukref10 (Make, number). -/
import Derived.Test.YtkgcjelipllpdaaRefO
import Derived.Test.YtkgcjelipllpdaaFrameMake
import Derived.Test.YtkgcjelipllpdaaFrameRead2
import Derived.Deep.RegionWith
import Derived.BigRegion
import Derived.BigQuiet
import Derived.Deep.QuietTactic
import Derived.Outline
import Derived.IntWalk
namespace Go.Proofs.Ytkgcjelipllpdaa
open Go.RowKit

/-- so many bytes of a number, the highest one first -/
def fixL : Nat → Nat → List UInt8
  | _, 0 => []
  | n, k + 1 => fixL (n / 256) k ++ [UInt8.ofNat n]
theorem fixL_len (k : Nat) : ∀ n, (fixL n k).length = k := by
  induction k with
  | zero => intro n; rfl
  | succ k ih => intro n; show (fixL (n / 256) k ++ _).length = _; rw [List.length_append, ih]; rfl
theorem fixL_be4 (n : Nat) : fixL n 4 = be4 n := by
  unfold fixL fixL fixL fixL fixL be4 byt64
  simp only [Nat.div_div_eq_div_mul, List.nil_append, List.cons_append, Nat.pow_succ, Nat.pow_zero, Nat.div_one, Nat.one_mul]
theorem fixL_be8 (n : Nat) : fixL n 8 = be8 n := by
  unfold fixL fixL fixL fixL fixL fixL fixL fixL fixL be8 byt64
  simp only [Nat.div_div_eq_div_mul, List.nil_append, List.cons_append, Nat.pow_succ, Nat.pow_zero, Nat.div_one, Nat.one_mul]
theorem bts_one (n : Nat) : bts [UInt8.ofNat n] = #[.int .u8 ((n : Int) % 256)] := by
  unfold bts
  show #[Value.int .u8 ((UInt8.ofNat n).toNat : Int)] = _
  rw [UInt8.toNat_ofNat', Int.natCast_emod]; rfl

theorem cell_kept1 {w w1 : World} {v : Value} {t : TypeId} (hb : Below (w.alloc (.cells #[v] t)).drew.heap.size (w.alloc (.cells #[v] t)).drew w1) : w1.cell? ⟨w.heap.size, 0, none⟩ = some v := by
  rw [hb.cell (p := ⟨w.heap.size, 0, none⟩) (by show w.heap.size < (w.alloc (.cells #[v] t)).heap.size; rw [World.size_alloc]; omega)]
  show (w.alloc (.cells #[v] t)).cell? ⟨w.heap.size, 0, none⟩ = _
  rw [World.cell?_alloc_new]; rfl
theorem cell_kept2 {w w1 : World} {v : Value} {t : TypeId} (hb : Below (w.drew.alloc (.cells #[v] t)).heap.size (w.drew.alloc (.cells #[v] t)) w1) : w1.cell? ⟨w.heap.size, 0, none⟩ = some v := cell_kept1 hb
theorem conv_one (n : Nat) (W : World) (h : Nat) (hc : W.cell? ⟨h, 0, none⟩ = some (.int .u8 ((n : Int) % 256))) :
    (convert 46 9 (.slice (some ⟨h, 0, none⟩) 1 1)).run Try.prog W = .ok (.string ⟨#[UInt8.ofNat n]⟩) W := by
  refine run_convert_bytes_back _ _ _ 5 _ _ [UInt8.ofNat n] Try.underlying46 Try.underlying5 Try.underlying9 ?_
  intro j hj
  obtain rfl : j = 0 := by simpa using hj
  have : (⟨h, 0, none⟩ : Addr).add 0 = ⟨h, 0, none⟩ := rfl
  rw [this, hc]
  show _ = some (Value.int .u8 ((UInt8.ofNat n).toNat : Int))
  rw [UInt8.toNat_ofNat', Int.natCast_emod]; rfl

set_option maxHeartbeats 1000000 in
theorem rfix_any (k : Nat) (hk : k ≤ 100) : ∀ (n : Nat) (w : World), n < 18446744073709551616 →
    Calls Try.prog 39 #[.int .u64 n, .int .i64 k] w fun e w' => e = .returned (.string (bs (fixL n k))) ∧ Below w.heap.size w w' := by
  induction k with
  | zero =>
    intro n w hn
    go_enter Try.func39, Try.ntmps39
    go_wp2_with fail
    go_ret
    exact ⟨rfl, Below.refl _ _⟩
  | succ k ih =>
    intro n w hn
    have IH := Lib.hid (fun w => ih (by omega) (n / 256) w (by omega))
    clear ih
    obtain ⟨y, ey⟩ : ∃ y : ByteArray, ⟨#[UInt8.ofNat n]⟩ = y := ⟨_, rfl⟩
    have hc : ∀ (W : World) (h : Nat), W.cell? ⟨h, 0, none⟩ = some (.int .u8 ((n : Int) % 256)) → (convert 46 9 (.slice (some ⟨h, 0, none⟩) 1 1)).run Try.prog W = .ok (.string y) W := by rw [← ey]; exact conv_one n
    have hy : y.size = 1 := by rw [← ey]; rfl
    have hs : IntKind.i64.wrap (k : Int) = k := IntWalk.i64_in _ (by omega)
    have e1 : IntKind.u64.wrap ((n : Int) % 256) = (n : Int) % 256 := by rw [IntKind.wrap_u64]; omega
    have e2 : IntKind.u8.wrap ((n : Int) % 256) = (n : Int) % 256 := by rw [IntKind.wrap_u8]; omega
    have e3 : (n : Int).tmod 256 = (n : Int) % 256 := Int.tmod_eq_emod_of_nonneg (by omega)
    obtain ⟨m, em⟩ : ∃ m, n / 256 = m := ⟨_, rfl⟩
    have hq : IntKind.u64.wrap ((n : Int) / 256) = m := by rw [IntKind.wrap_u64]; omega
    rw [em] at IH
    have hd : decide ((k : Int) + 1 ≤ 0) = false := decide_eq_false (by omega)
    have hL : (bs (fixL m k)).size = k := by rw [size_bs, fixL_len]
    obtain ⟨x, ex⟩ : ∃ x, bs (fixL m k) = x := ⟨_, rfl⟩
    rw [ex] at hL IH
    have EX := Lib.hid ex
    have EM := Lib.hid em
    clear ex em
    have hcat : ¬ 9223372036854775807 < x.size + y.size := by omega
    have HL := Lib.hid hL
    have HY := Lib.hid hy
    have EY := Lib.hid ey
    clear hL hy ey
    go_enter Try.func39, Try.ntmps39
    go_wp2_with fail
    go_region_with ((go_at_call 39; with_reducible refine (IH.out _).mono ?_; rintro e w1 ⟨rfl, hb1⟩; (first | have hcell := cell_kept1 hb1 | have hcell := cell_kept2 hb1 | skip)))
    all_goals
      go_wp2_with fail
      go_ret
      refine ⟨?_, ?_⟩
      · have : bs (fixL n (k + 1)) = x ++ y := by rw [← EX.out, ← EY.out, ← EM.out]; exact ba_ext (by rw [bs_data, data_app, bs_data]; rfl)
        rw [this]
        rfl
      · first
        | exact bel_alloc (bel_undrew hb1) _
        | exact bel_trans (bel_alloc (Below.refl _ _) _) (bel_undrew hb1)

set_option maxHeartbeats 400000 in
theorem rlow_any (c : BitVec 32) (w : World) :
    Calls Try.prog 31 #[.int .u32 c.toNat] w fun e w' => e = .returned (.string (bs (four c))) ∧ Below w.heap.size w w' := by
  have hc := conv_bts (four c) 4 4 rfl w
  rw [bts_four] at hc
  have hl := b32lt c
  go_enter Try.func31, Try.ntmps31
  go_wp2_with fail
  go_ret
  exact ⟨rfl, (Below.refl _ _).alloc (Nat.le_refl _) _⟩

end Go.Proofs.Ytkgcjelipllpdaa
