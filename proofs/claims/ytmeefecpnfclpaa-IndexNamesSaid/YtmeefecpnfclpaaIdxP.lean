/- What an index of a segment of payloads tells. Plain lists; the examples. -/
import Derived.Test.YtmeefecpnfclpaaSegN
import Derived.Test.YtmeefecpnfclpaaIdxBd
import Derived.Test.YtmeefecpnfclpaaB3
namespace Go.Proofs.Ytmeefecpnfclpaa
open Go.RowKit

theorem getP_made {f : Nat} {ls : List (List UInt8)} {e : Nat} (h : jnE f ls = 0) (i : Nat) (hi : i < ls.length) :
    gE e f (placesF 16 ls) (jnL f ls) ((f + i : Nat) : Int) = 0 ∧ gP e f (placesF 16 ls) (jnL f ls) ((f + i : Nat) : Int) = bs ls[i] := by
  obtain ⟨h0, h1, h2, h3, h4⟩ := jn_ok h
  have hl := (seg_scan h).1
  rw [Int.toNat_natCast] at hl
  have hx : inIx f (placesF 16 ls).length ((f + i : Nat) : Int) := by unfold inIx; rw [places_len]; omega
  unfold gE gP
  rw [if_pos hx, if_pos hx, Int.toNat_natCast, show f + i - f = i by omega]
  have hd : i / e * e + i % e = i := by rw [Nat.mul_comm]; exact Nat.div_add_mod i e
  obtain ⟨q, hq⟩ : ∃ q, i / e * e = q := ⟨_, rfl⟩
  obtain ⟨r, hr⟩ : ∃ r, i % e = r := ⟨_, rfl⟩
  rw [hq, hr] at hd
  rw [hq, hr]
  subst hd
  rw [places_getD ls 16 q (by omega), hl]
  have hh := hdr_len f
  have g1 := (get_join ls (hdrL f) f h4 r q (f + q) hi (by omega)).1
  have g2 := getP_join ls (hdrL f) f h4 r q (f + q) hi (by omega)
  rw [hh] at g1 g2
  exact ⟨g1, by rw [g2]⟩
theorem getE_out {f : Nat} {ls : List (List UInt8)} {e : Nat} {l : List UInt8} {q : Int} (hq : q < f ∨ f + ls.length ≤ q) : gE e f (placesF 16 ls) l q = 5 := by
  unfold gE
  rw [if_neg]
  unfold inIx
  rw [places_len]
  omega

/-- the examples' payloads -/
def exZ : List ByteArray := [⟨#[97, 98]⟩, ⟨#[99]⟩, ⟨#[100, 101, 102]⟩]
def exS : ByteArray := bs (jnL 5 (paysL exZ))
theorem ex_jn : jnE 5 (paysL exZ) = 0 := by decide
theorem ex_size : exS.size = 70 := by
  unfold exS
  rw [size_bs, (seg_scan ex_jn).2.1]; rfl
theorem ex_bytes : exS.data.toList = jnL (5 : Nat) (paysL exZ) := rfl
theorem ex_F : ixF exS.data.toList = 5 := by
  have := (seg_scan ex_jn).2.2.2.1
  unfold ixF; rw [ex_bytes]; show hdF (jnL 5 (paysL exZ)) = 5; omega
theorem ex_P : ixP exS.data.toList = [16, 34, 51] := by
  have h := (seg_scan ex_jn).2.2.2.2.1
  have := ex_F
  unfold ixF at this
  unfold ixP; rw [this]; exact h
theorem ex_G : ixG exS.data.toList = 70 := by
  have h := (seg_scan ex_jn).2.2.2.2.2
  have := ex_F
  unfold ixF at this
  unfold ixG; rw [this]; exact h
theorem ex_bd : bdE 2 exS.data.toList = 0 := by
  unfold bdE; rw [if_neg (by omega)]; exact (seg_scan ex_jn).2.2.1
theorem ex_get : gE 2 5 [16, 34, 51] exS.data.toList 6 = 0 ∧ gP 2 5 [16, 34, 51] exS.data.toList 6 = ⟨#[99]⟩ :=
  getP_made (f := 5) (e := 2) ex_jn 1 (by decide)
theorem ex_none : gE 2 5 [16, 34, 51] exS.data.toList 8 = 5 := getE_out (f := 5) (ls := paysL exZ) (q := 8) (Or.inr (by decide))

end Go.Proofs.Ytmeefecpnfclpaa
