/- Walks over the reference soukref01: image, Both. -/
import Derived.Test.YtdcfefhlhphdiaaRefC
import Derived.Test.YtdcfefhlhphdiaaForge
namespace Go.Proofs.Ytdcfefhlhphdiaa
open Go.RowKit

def imTo (f : Nat → BitVec 32) (c : BitVec 32) : Nat → BitVec 32
  | 0 => 0#32
  | i + 1 => if c.getLsbD i then xr (imTo f c i) (f i) else imTo f c i
theorem imTo_succ (f : Nat → BitVec 32) (c : BitVec 32) (i : Nat) : imTo f c (i + 1) = if c.getLsbD i then xr (imTo f c i) (f i) else imTo f c i := rfl
/-- what each bit becomes over j bits 0 -/
def pw (j i : Nat) : BitVec 32 := up j (1#32 <<< i)
theorem imTo_pw (j : Nat) (c : BitVec 32) : ∀ i, imTo (pw j) c i = up j (lowTo c i) := by
  intro i
  induction i with
  | zero => show 0#32 = up j 0#32; rw [up_zero]
  | succ i ih =>
    rw [imTo_succ, ih]
    rw [show lowTo c (i + 1) = if c.getLsbD i then lowTo c i ^^^ 1#32 <<< i else lowTo c i from rfl]
    cases c.getLsbD i
    · rfl
    · simp only [if_true]; rw [up_xor]; rfl
theorem image_pw (j : Nat) (c : BitVec 32) : imTo (pw j) c 32 = up j c := by rw [imTo_pw, low_all]

set_option maxHeartbeats 400000 in
theorem image_any (f : Nat → BitVec 32) (c : BitVec 32) (w : World) :
    Calls Try.prog 37 #[.agg (u32s 32 f), .int .u32 c.toNat] w fun e w' => e = .returned (.int .u32 (imTo f c 32).toNat) ∧ Below w.heap.size w w' := by
  go_enter Try.func37, Try.ntmps37
  go_wp2_with fail
  go_loop [5, 6] (fun x y => ∃ i : Nat, i ≤ 32 ∧ y = .int .i64 i ∧ x = .int .u32 (imTo f c i).toNat) (fun _ y => 32 - (intOf y).toNat)
  case atStart => exact ⟨0, by omega, rfl, rfl⟩
  case round =>
    obtain ⟨i, hi, rfl, rfl⟩ := hrel
    by_cases h8 : i < 32
    · cases hb : c.getLsbD i
      · have hbit := bit_false c i hb
        have HB := Lib.hid hb
        clear hb
        go_wp2_with fail
        go_round
        case rel => exact ⟨i + 1, by omega, by go_num, by rw [imTo_succ, HB.out]; rfl⟩
        case measure => simp [intOf]; omega
      · have hbit := bit_true c i hb
        have HB := Lib.hid hb
        clear hb
        go_wp2_with fail
        go_round
        case rel => exact ⟨i + 1, by omega, by go_num, by rw [imTo_succ, HB.out]; rfl⟩
        case measure => simp [intOf]; omega
    · go_wp2_with fail
      go_ret
      obtain rfl : i = 32 := by omega
      exact ⟨rfl, bel_alloc (Below.refl _ _) _⟩

theorem image_T (j : Nat) (c : BitVec 32) (l : List Value) (h : l = (u32s 32 (pw j)).toList) (w : World) :
    Calls Try.prog 37 #[.agg l.toArray, .int .u32 c.toNat] w fun e w' => e = .returned (.int .u32 (up j c).toNat) ∧ Below w.heap.size w w' := by
  subst h
  have := image_any (pw j) c w
  rw [image_pw] at this
  simpa using this

end Go.Proofs.Ytdcfefhlhphdiaa
