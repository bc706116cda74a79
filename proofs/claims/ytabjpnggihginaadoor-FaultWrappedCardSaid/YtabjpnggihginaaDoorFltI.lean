/- souklaw04: heavy, made. -/
import Derived.Test.YtabjpnggihginaaDoorFltH
import Derived.BigQuiet
import Derived.BigRegion
import Derived.Deep.QuietTactic
namespace Go.Proofs.YtabjpnggihginaaDoor
open Go.RowKit Go.Extern.Stop Go.Stop Go.Extern Go.Shelf

/-- a slice of Wraps that came in -/
def WrsIn (w : World) (a : Option Addr) (len cap : Nat) (z : List Wr) : Prop :=
  z.length = len ∧ len ≤ cap ∧ cap ≤ 9223372036854775807 ∧ (∀ x ∈ z, -9223372036854775808 ≤ x.pl ∧ x.pl ≤ 9223372036854775807) ∧
    (len = 0 ∨ ∃ b off, a = some ⟨b, off, none⟩ ∧ b < w.heap.size ∧ ∀ j x, z[j]? = some x → w.cell? ⟨b, off + j * 3, none⟩ = some (.string x.op) ∧ w.cell? ⟨b, off + j * 3 + 1, none⟩ = some (.string x.nm) ∧ w.cell? ⟨b, off + j * 3 + 2, none⟩ = some (.int .i64 x.pl))
theorem WrsIn.keep {w w' : World} {a : Option Addr} {len cap : Nat} {z : List Wr} (h : WrsIn w a len cap z) (hb : Below w.heap.size w w') : WrsIn w' a len cap z :=
  ⟨h.1, h.2.1, h.2.2.1, h.2.2.2.1, h.2.2.2.2.imp id (fun ⟨b, off, e, hl, hc⟩ => ⟨b, off, e, Nat.lt_of_lt_of_le hl hb.size, fun j x hj =>
    ⟨(hb.cell (p := ⟨b, off + j * 3, none⟩) hl).trans (hc j x hj).1, (hb.cell (p := ⟨b, off + j * 3 + 1, none⟩) hl).trans (hc j x hj).2.1, (hb.cell (p := ⟨b, off + j * 3 + 2, none⟩) hl).trans (hc j x hj).2.2⟩⟩)⟩

def one (x : Wr) : Nat := 20 + min 5000 x.op.size + min 5000 x.nm.size
def hvy (n : Nat) : List Wr → Nat
  | [] => n
  | x :: l => if n < 5000 then hvy (n + one x) l else n
theorem hvy_take (l : List Wr) (k : Nat) (h : k < l.length) (n : Nat) (hn : hvy n (l.take k) < 5000) (x : Wr) (hx : l[k]? = some x) : hvy n (l.take (k + 1)) = hvy n (l.take k) + one x := by
  induction l generalizing k n with
  | nil => simp at h
  | cons y l ih =>
    cases k with
    | zero =>
      simp at hx
      subst hx
      simp only [List.take_zero, hvy] at hn
      simp [hvy, hn]
    | succ k =>
      rw [List.take_succ_cons, hvy] at hn ⊢
      rw [List.take_succ_cons, hvy]
      by_cases hc : n < 5000
      · rw [if_pos hc] at hn ⊢
        rw [if_pos hc]
        exact ih k (by simpa using h) _ hn (by simpa using hx)
      · rw [if_neg hc] at hn
        omega
theorem hvy_stop (l : List Wr) (k : Nat) (n : Nat) (hn : 5000 ≤ hvy n (l.take k)) : hvy n l = hvy n (l.take k) := by
  induction l generalizing k n with
  | nil => simp
  | cons y l ih =>
    cases k with
    | zero =>
      simp only [List.take_zero] at hn ⊢
      have : ¬ n < 5000 := by simp only [hvy] at hn; omega
      simp only [hvy, if_neg this]
    | succ k =>
      rw [List.take_succ_cons, hvy] at hn ⊢
      by_cases hc : n < 5000
      · rw [if_pos hc] at hn ⊢
        rw [hvy, if_pos hc]
        exact ih k _ hn
      · rw [if_neg hc, hvy, if_neg hc]

set_option maxRecDepth 20000 in
set_option maxHeartbeats 2000000 in
theorem heavy_any (a : Option Addr) (len cap : Nat) (z : List Wr) (w : World) (h : WrsIn w a len cap z) :
    Calls Tryd.prog 9 #[.slice a len cap] w fun e w' => e = .returned (.bool (decide (5000 ≤ hvy 0 z))) ∧ Below w.heap.size w w' := by
  obtain ⟨hl, hc, hm, _, hz⟩ := h
  go_enter Tryd.func9, Tryd.ntmps9
  go_wp2_with fail
  have HZ := Lib.hid hz
  have HL := Lib.hid hl
  clear hz hl
  go_loopw [3, 4] (fun nv iv wr => ∃ k n : Nat, k ≤ len ∧ nv = .int .i64 n ∧ iv = .int .i64 k ∧ n = hvy 0 (z.take k) ∧ n ≤ 20000 ∧ Below w.heap.size w wr) (fun _ iv _ => len - (intOf iv).toNat)
  case atStart => exact ⟨0, 0, Nat.zero_le _, rfl, rfl, by simp [hvy], by omega, Below.refl _ _⟩
  case round =>
    obtain ⟨k, n, hk, rfl, rfl, hn, hn2, hb⟩ := hrel
    have HN := Lib.hid hn
    have HB := Lib.hid hb
    clear hn hb
    by_cases hin : k < len
    · by_cases h5 : n < 5000
      · obtain ⟨x, hx⟩ : ∃ x, z[k]? = some x := ⟨_, List.getElem?_eq_getElem (by rw [HL.out]; exact hin)⟩
        rcases HZ.out with h0 | ⟨b, off, rfl, hbl, hcells⟩
        · omega
        obtain ⟨y0, y1, y2⟩ := hcells k x hx
        have z0 := (HB.out.cell (p := ⟨b, off + k * 3, none⟩) hbl).trans y0
        have z1 := (HB.out.cell (p := ⟨b, off + k * 3 + 1, none⟩) hbl).trans y1
        have d1 : decide ((n : Int) < 5000) = true := decide_eq_true (by omega)
        have d2 : decide ((k : Int) < (len : Int)) = true := decide_eq_true (by omega)
        clear hcells y0 y1 y2 HZ
        have g0 : (0 : Int) ≤ (k : Int) := by omega
        have g1 : (k : Int) < (len : Int) := by omega
        go_wp2_with fail
        go_quiet (fail)
        have hv : ((n : Int) + 20 + if (x.op.size : Int) < 5000 then (x.op.size : Int) else 5000) + (if (x.nm.size : Int) < 5000 then (x.nm.size : Int) else 5000) = ((n + one x : Nat) : Int) := by
          unfold one
          split <;> split <;> omega
        rw [hv]
        have hN1 : one x ≤ 10020 := by unfold one; omega
        have hnx : n + one x = hvy 0 (z.take (k + 1)) := by
          have h0 := HN.out
          rw [hvy_take z k (by rw [HL.out]; exact hin) 0 (by omega) x hx, ← h0]
        have HX := Lib.hid hnx
        have hm2 : n + one x ≤ 20000 := by omega
        generalize n + one x = m at *
        clear hv hnx hx z0 z1
        go_wp2_with fail
        go_roundw
        case rel => exact ⟨k + 1, m, by omega, rfl, by go_num, HX.out, by omega, ⟨HB.out.os, HB.out.tape, HB.out.output, HB.out.size, HB.out.block⟩⟩
        case measure => simp [intOf]; omega
      · have d1 : decide ((n : Int) < 5000) = false := decide_eq_false (by omega)
        have d2 : decide ((k : Int) < (len : Int)) = true := decide_eq_true (by omega)
        have d3 : decide (5000 ≤ hvy 0 z) = true := decide_eq_true (by rw [hvy_stop z k 0 (by rw [← HN.out]; omega), ← HN.out]; omega)
        have d4 : decide ((5000 : Int) ≤ (n : Int)) = true := decide_eq_true (by omega)
        have D3 := Lib.hid d3
        clear HZ d3
        go_wp2_with fail
        go_ret
        exact ⟨by rw [D3.out]; rfl, HB.out⟩
    · obtain rfl : k = len := by omega
      have d2 : decide ((k : Int) < (k : Int)) = false := decide_eq_false (by omega)
      have e1 : n = hvy 0 z := by rw [HN.out, List.take_of_length_le (by rw [HL.out]; exact Nat.le_refl _)]
      have d3 : decide (5000 ≤ hvy 0 z) = decide ((5000 : Int) ≤ (n : Int)) := by rw [← e1]; exact decide_eq_decide.2 (by omega)
      have D3 := Lib.hid d3
      clear HZ d3 e1
      go_wp2_with fail
      go_ret
      exact ⟨by rw [D3.out]; rfl, HB.out⟩
end Go.Proofs.YtabjpnggihginaaDoor
