/- The walk over souklaw01.CrcSeals. -/
import Derived.Test.YtdcfefhlhphdiaaRefF
import Derived.Test.YtdcfefhlhphdiaaCrcTellsW
namespace Go.Proofs.Ytdcfefhlhphdiaa
open Go.RowKit

/-- package and reference answer alike -/
def Alike2 (f g : FuncId) (args : Array Value) (p : ByteArray) (q : Int) : Prop :=
  (∀ w, Calls Try.prog f args w fun e w' => e = .returned (.tuple #[.string p, .int .i64 q]) ∧ Below w.heap.size w w') ∧
  (∀ w, Calls Try.prog g args w fun e w' => e = .returned (.tuple #[.string p, .int .i64 q]) ∧ Below w.heap.size w w')
theorem forge_both (s : ByteArray) (a : Int) (want : BitVec 32) (hs : s.size ≤ 1000) :
    ∃ p q, Alike2 19 21 #[.string s, .int .i64 a, .int .u32 want.toNat] p q := by
  by_cases h0 : a < 0
  · exact ⟨_, _, fun w => forge_neg s a want w h0, fun w => rforge_neg s a want w h0⟩
  · by_cases h1 : (s.size : Int) - 4 < a
    · exact ⟨_, _, fun w => forge_far s a want w (by omega) (by omega) h1, fun w => rforge_far s a want w (by omega) (by omega) h1⟩
    · obtain ⟨n, rfl⟩ := Int.eq_ofNat_of_zero_le (show 0 ≤ a by omega)
      exact ⟨_, _, fun w => forge_ok s n want w (by omega) (by omega), fun w => rforge_ok s n want w (by omega) (by omega)⟩
theorem open_both (s : ByteArray) (hs : s.size ≤ 1000000) :
    ∃ p q, Alike2 16 23 #[.string s] p q := by
  by_cases h0 : s.size < 4
  · exact ⟨_, _, fun w => open_short s w h0, fun w => ropen_short s w h0⟩
  · cases hy : isSealed s.data.toList
    · exact ⟨_, _, fun w => open_no s w (by omega) (by omega) hy, fun w => ropen_any s w false (by omega) (by omega) hy⟩
    · exact ⟨_, _, fun w => open_yes s w (by omega) (by omega) hy, fun w => ropen_any s w true (by omega) (by omega) hy⟩
theorem rseal_to (s x : ByteArray) (w : World) (hs : s.size ≤ 1000000000) (h : bs (sealL s.data.toList) = x) :
    Calls Try.prog 22 #[.string s] w fun e w' => e = .returned (.string x) ∧ Below w.heap.size w w' := by
  subst h; exact rseal_str s w hs

theorem str_keep {w w' : World} {d : Nat} {c : Array Value} (h : w.heap[d]? = some (.cells c 9)) (hb : Below w.heap.size w w') : w'.heap[d]? = some (.cells c 9) := by
  rw [hb.block d (Array.getElem?_eq_some_iff.1 h).1]; exact h

set_option maxHeartbeats 400000 in
theorem seals_big (s : ByteArray) (a : Int) (want : BitVec 32) (w : World) (h : 600 < s.size) :
    Calls Try.prog 9 #[.string s, .int .i64 a, .int .u32 want.toNat] w fun e w' => e = .returned (.bool true) ∧ Below w.heap.size w w' := by
  go_enter Try.func9, Try.ntmps9
  go_wp2_with fail
  with_reducible refine (awake_any _).mono ?_
  rintro e w1 ⟨rfl, hb1⟩
  go_wp2_with fail
  go_ret
  exact ⟨rfl, hb1⟩

set_option maxHeartbeats 1000000 in
theorem seals_small (s : ByteArray) (a : Int) (want : BitVec 32) (w : World) (h : s.size ≤ 600) :
    Calls Try.prog 9 #[.string s, .int .i64 a, .int .u32 want.toNat] w fun e w' => e = .returned (.bool true) ∧ Below w.heap.size w w' := by
  obtain ⟨p, q, hf1, hf2⟩ := forge_both s a want (by omega)
  obtain ⟨x, hx⟩ : ∃ x, bs (sealL s.data.toList) = x := ⟨_, rfl⟩
  have hxs : x.size = s.size + 4 := by rw [← hx, size_bs, length_seal]; simp
  have HF1 := Lib.hid hf1
  have HF2 := Lib.hid hf2
  have HX := Lib.hid hx
  have L1 := Lib.hid (show s.size ≤ 1000000000 by omega)
  have hds : decide ((600 : Int) < (s.size : Int)) = false := by simp; omega
  clear hf1 hf2 hx
  go_enter Try.func9, Try.ntmps9
  go_wp2_with fail
  with_reducible refine (HF1.out _).mono ?_
  rintro e w1 ⟨rfl, hb1⟩
  go_wp2_with fail
  with_reducible refine (HF2.out _).mono ?_
  rintro e w2 ⟨rfl, hb2⟩
  go_wp2_with fail
  with_reducible refine (seal_to _ _ _ L1.out HX.out).mono ?_
  rintro e w3 ⟨rfl, hb3⟩
  go_wp2_with fail
  with_reducible refine (rseal_to _ _ _ L1.out HX.out).mono ?_
  rintro e w4 ⟨rfl, hb4⟩
  go_wp2_with fail
  with_reducible refine (rseal_to _ _ _ L1.out HX.out).mono ?_
  rintro e w5 ⟨rfl, hb5⟩
  go_wp2_with fail
  with_reducible refine (rseal_to _ _ _ L1.out HX.out).mono ?_
  rintro e w6 ⟨rfl, hb6⟩
  go_wp2_with fail
  have hr := heap_alloc_new w6 (.cells #[.string s, .string x, .string (⟨#[120]⟩ ++ x)] 9)
  have hbl0 : Below w.heap.size w (w6.alloc (.cells #[.string s, .string x, .string (⟨#[120]⟩ ++ x)] 9)) := bel_alloc (bel_trans (bel_trans (bel_trans (bel_trans (bel_trans hb1 hb2) hb3) hb4) hb5) hb6) _
  generalize w6.alloc (.cells #[.string s, .string x, .string (⟨#[120]⟩ ++ x)] 9) = wq at *
  generalize w6.heap.size = B at *
  have HR := Lib.hid hr
  have HB := Lib.hid hbl0
  clear hr hbl0 hb1 hb2 hb3 hb4 hb5 hb6
  go_loopw [58] (fun y wr => ∃ k : Nat, k ≤ 3 ∧ y = .int .i64 k ∧ wr.heap[B]? = some (.cells #[.string s, .string x, .string (⟨#[120]⟩ ++ x)] 9) ∧ Below w.heap.size w wr) (fun y _ => 3 - (intOf y).toNat)
  case atStart => exact ⟨0, by omega, rfl, HR.out, HB.out⟩
  case round =>
    obtain ⟨k, hk, rfl, hr, hbl⟩ := hrel
    clear HR HB
    have HR := Lib.hid hr
    clear hr
    by_cases hk3 : k < 3
    · obtain ⟨y, hy, hys⟩ : ∃ y : ByteArray, wr.cell? ⟨B, k, none⟩ = some (.string y) ∧ y.size ≤ 1000000 := by
        rw [cell_of_row _ _ _ _ _ _ HR.out]
        rcases (show k = 0 ∨ k = 1 ∨ k = 2 by omega) with e | e | e
        · subst e; exact ⟨s, rfl, by omega⟩
        · subst e; exact ⟨x, rfl, by omega⟩
        · subst e
          refine ⟨_, rfl, ?_⟩
          simp only [ByteArray.size_append']
          have : (ByteArray.mk #[120]).size = 1 := rfl
          omega
      obtain ⟨p', q', ho1, ho2⟩ := open_both y hys
      have HO1 := Lib.hid ho1
      have HO2 := Lib.hid ho2
      have hd3 : decide ((k : Int) < 3) = true := by simp; omega
      clear ho1 ho2
      go_wp2_with fail
      with_reducible refine (HO1.out _).mono ?_
      rintro e w8 ⟨rfl, hb8⟩
      go_wp2_with fail
      with_reducible refine (HO2.out _).mono ?_
      rintro e w9 ⟨rfl, hb9⟩
      have HR9 := Lib.hid (str_keep (str_keep HR.out hb8) hb9)
      go_wp2_with fail
      go_roundw
      case rel => exact ⟨k + 1, by omega, by go_num, HR9.out, bel_trans (bel_trans hbl hb8) hb9⟩
      case measure => simp [intOf]; omega
    · go_wp2_with fail
      refine (awake_any _).mono ?_
      rintro e w8 ⟨rfl, hb8⟩
      go_wp2_with fail
      go_ret
      exact ⟨rfl, bel_trans hbl hb8⟩

theorem seals_law (s : ByteArray) (a b : Int) (w : World) (hb : (Lit.int .u32 b).wf = true) :
    Calls Try.prog 9 #[.string s, .int .i64 a, .int .u32 b] w fun e w' => e = .returned (.bool true) ∧ Below w.heap.size w w' := by
  obtain ⟨c, rfl⟩ := wf_u32 hb
  by_cases h : s.size ≤ 600
  · exact seals_small s a c w h
  · exact seals_big s a c w (by omega)

end Go.Proofs.Ytdcfefhlhphdiaa
