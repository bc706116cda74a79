/- souklaw03.MoneyTexts: its walk. -/
import Derived.Test.YtikjnfghlohjkaaDoorMonBackW
import Derived.Test.YtikjnfghlohjkaaDoorMonX
import Derived.Test.YtikjnfghlohjkaaDoorMonY
namespace Go.Proofs.YtikjnfghlohjkaaDoor
open Go.RowKit Go.Shelf Go.Lib

theorem five_at (P : Nat → ByteArray → Prop) (a b c d e : ByteArray) (h0 : P 0 a) (h1 : P 1 b) (h2 : P 2 c) (h3 : P 3 d) (h4 : P 4 e) : ∀ k < 5, ∃ s, [a, b, c, d, e][k]? = some s ∧ P k s := by
  intro k hk
  match k, hk with
  | 0, _ => exact ⟨_, rfl, h0⟩
  | 1, _ => exact ⟨_, rfl, h1⟩
  | 2, _ => exact ⟨_, rfl, h2⟩
  | 3, _ => exact ⟨_, rfl, h3⟩
  | 4, _ => exact ⟨_, rfl, h4⟩
  | k + 5, h => exact absurd h (by omega)
set_option maxRecDepth 20000 in
set_option maxHeartbeats 4000000 in
theorem mtexts_law (n : Int) (s : ByteArray) (hn : -9223372036854775808 ≤ n ∧ n ≤ 9223372036854775807) (w : World) (hR : RngT w) (hP : PowT w) (hQ : RngP w) :
    Calls Tryd.prog 4 #[.int .i64 n, .string s] w fun r w' => r = .returned (.bool true) ∧ Below w.heap.size w w' := by
  have HR := Lib.hid hR
  have HP := Lib.hid hP
  have HQ := Lib.hid hQ
  clear hR hP hQ
  by_cases hs : 200 < s.size
  · have d1 : decide ((200 : Int) < (s.size : Int)) = true := decide_eq_true (by omega)
    clear hn hs
    go_enter Tryd.func4, Tryd.ntmps4
    go_wp2_with fail
    refine (awake_any _ HR.out HP.out).mono ?_
    rintro r w1 ⟨rfl, hb1⟩
    have HB1 := Lib.hid hb1
    clear hb1
    go_wp2_with fail
    go_ret
    exact ⟨rfl, HB1.out⟩
  have d1 : decide ((200 : Int) < (s.size : Int)) = false := decide_eq_false (by omega)
  obtain ⟨t, ht⟩ : ∃ t, shS n = t := ⟨_, rfl⟩
  have k1 := rtext_any n hn
  rw [ht] at k1
  have K1 := Lib.hid k1
  clear k1
  have K2 := Lib.hid (show_is n hn t ht)
  have hts : t.size ≤ 24 := by rw [← ht]; exact sh_size n hn
  obtain ⟨x2, e2⟩ : ∃ x2 : ByteArray, ⟨#[45]⟩ ++ t = x2 := ⟨_, rfl⟩
  obtain ⟨x3, e3⟩ : ∃ x3 : ByteArray, ⟨#[48]⟩ ++ t = x3 := ⟨_, rfl⟩
  obtain ⟨x4, e4⟩ : ∃ x4 : ByteArray, t ++ ⟨#[48]⟩ = x4 := ⟨_, rfl⟩
  have s2 : x2.size ≤ 25 := by rw [← e2, ByteArray.size_append]; show 1 + t.size ≤ 25; omega
  have s3 : x3.size ≤ 25 := by rw [← e3, ByteArray.size_append]; show 1 + t.size ≤ 25; omega
  have s4 : x4.size ≤ 25 := by rw [← e4, ByteArray.size_append]; show t.size + 1 ≤ 25; omega
  have z1 : ¬ 9223372036854775807 < 1 + t.size := by omega
  have z2 : ¬ 9223372036854775807 < t.size + 1 := by omega
  have H5 := Lib.hid (five_at (fun _ x => x.size ≤ 1000) s t x2 x3 x4 (by omega) (by omega) (by omega) (by omega) (by omega))
  clear hn hs ht
  go_enter Tryd.func4, Tryd.ntmps4
  go_wp2_with fail
  refine (K1.out _).mono ?_
  rintro r w1 ⟨rfl, hb1⟩
  have HB1 := Lib.hid hb1
  clear hb1
  go_wp2_with fail
  obtain ⟨W1, eW1⟩ : ∃ W1, w1.alloc (.cells #[.string s, .string t, .string x2, .string x3, .string x4] 9) = W1 := ⟨_, rfl⟩
  have hcl : ∀ k x, [s, t, x2, x3, x4][k]? = some x → W1.cell? ⟨w1.heap.size, k, none⟩ = some (.string x) := by
    intro k x hk
    rw [← eW1, World.cell?_alloc_new]
    have : (#[.string s, .string t, .string x2, .string x3, .string x4] : Array Value) = ([s, t, x2, x3, x4].map Value.string).toArray := rfl
    rw [this, List.getElem?_toArray, List.getElem?_map, hk]
    rfl
  have HB2 := Lib.hid (show Below w.heap.size w W1 by rw [← eW1]; exact HB1.out.alloc HB1.out.size _)
  have HCL := Lib.hid hcl
  rw [eW1]
  clear eW1 hcl HB1 e2 e3 e4 s2 s3 s4 z1 z2 hts
  generalize w1.heap.size = g at *
  go_loopw [28] (fun iv wr => ∃ k : Nat, k ≤ 5 ∧ iv = .int .i64 k ∧ Below W1.heap.size W1 wr) (fun iv _ => 5 - (RowKit.intOf iv).toNat)
  case atStart => exact ⟨0, by omega, rfl, Below.refl _ _⟩
  case round =>
    obtain ⟨k, hk, rfl, hb⟩ := hrel
    have HB := Lib.hid hb
    clear hb
    by_cases hin : k < 5
    · obtain ⟨x, hx, hxs⟩ := H5.out k hin
      have x0 := (HB.out.cell (p := ⟨g, k, none⟩) (cell_lt (HCL.out k x hx))).trans (HCL.out k x hx)
      have HPAR := Lib.hid (parG_any x hxs wr (HQ.out.keep (bel_trans HB2.out HB.out)) (HR.out.keep (bel_trans HB2.out HB.out)))
      have HRP := Lib.hid (rparse_any x hxs)
      have d2 : decide ((k : Int) < 5) = true := decide_eq_true (by omega)
      have g0 : (0 : Int) ≤ (k : Int) := by omega
      have g1 : (k : Int) < 5 := by omega
      generalize rV x = V at *
      generalize rE x = E at *
      clear hx hxs
      go_wp2_with fail
      refine HPAR.out.mono ?_
      rintro e w2 ⟨rfl, hb⟩
      have HB3 := Lib.hid (bel_trans HB.out hb)
      clear hb
      go_wp2_with fail
      refine (HRP.out _).mono ?_
      rintro e w3 ⟨rfl, rfl⟩
      go_wp2_with fail
      go_roundw
      case rel => exact ⟨k + 1, by omega, by go_num, HB3.out⟩
      case measure => simp [RowKit.intOf]; omega
    · obtain rfl : k = 5 := by omega
      have HB4 := Lib.hid (bel_trans HB2.out HB.out)
      clear HB HCL hin hk HB2
      go_wp2_with fail
      refine (K2.out _ (HP.out.keep HB4.out)).mono ?_
      rintro e w2 ⟨rfl, hb⟩
      have HB5 := Lib.hid (bel_trans HB4.out hb)
      clear hb
      go_wp2_with fail
      refine (awake_any _ (HR.out.keep HB5.out) (HP.out.keep HB5.out)).mono ?_
      rintro e w3 ⟨rfl, hb⟩
      have HB6 := Lib.hid (bel_trans HB5.out hb)
      clear hb
      go_wp2_with fail
      go_ret
      exact ⟨rfl, HB6.out⟩
end Go.Proofs.YtikjnfghlohjkaaDoor
