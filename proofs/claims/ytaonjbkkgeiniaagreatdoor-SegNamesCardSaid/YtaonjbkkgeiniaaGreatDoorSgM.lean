/- seg.padded, Name. -/
import Derived.Test.YtaonjbkkgeiniaaGreatDoorSgN
import Derived.Test.YtaonjbkkgeiniaaGreatDoorSegW
import Derived.Test.YtaonjbkkgeiniaaGreatDoorShelf
import Derived.Lib.AppendIntMem
import Derived.LaidLaws
namespace Go.Proofs.YtaonjbkkgeiniaaGreatDoor
open Go.RowKit Go.Shelf Go.Lib

def PowT (w : World) : Prop := Lib.TabIs Tryz.prog w "internal/strconv.uint64pow10" .u64 Lib.pow10Tab
theorem PowT.keep {w w' : World} (h : PowT w) (hb : Below w.heap.size w w') : PowT w' := Lib.tabBelow_of_tabIs h w' hb
theorem fmt_any (n : Nat) (hn : n ≤ 1000000000000) (w : World) (htab : PowT w) :
    Calls Tryz.prog 84 #[.int .i64 n, .int .i64 10] w fun e w' => e = .returned (.string (bs (decDigits n))) ∧ Below w.heap.size w w' := by
  refine (Tryz.strconv_FormatInt_10 (n : Int) (by omega) (by omega) w htab).mono ?_
  rintro e w' ⟨rfl, k, os, rfl⟩
  rw [Lib.itoa_nonneg]
  exact ⟨rfl, Lib.below_grow _ _ (Nat.le_refl _) _ _⟩
theorem rep_any (c : Nat) (hc : c ≤ 1000) (w : World) :
    Calls Tryz.prog 85 #[.string ⟨#[48]⟩, .int .i64 c] w fun e w' => e = .returned (.string (bs (List.replicate c 48))) ∧ Below w.heap.size w w' := by
  refine (Tryz.strings_Repeat ⟨#[48]⟩ c w (by omega) (by show 1 * c ≤ _; omega)).mono ?_
  rintro e w' ⟨rfl, hb⟩
  have e1 : Lib.repeatL (⟨#[48]⟩ : ByteArray).data.toList c = List.replicate c 48 := by
    have := Lib.repeatL_replicate 48 1 c
    rw [Nat.mul_one] at this
    exact this
  rw [e1]
  exact ⟨rfl, hb⟩
set_option maxHeartbeats 1000000 in
theorem padded_any (n k : Nat) (hk : k + 1 ≤ 12) (hn : n < 10 ^ (k + 1)) (w : World) (htab : PowT w) :
    Calls Tryz.prog 53 #[.int .i64 n, .int .i64 (k + 1 : Nat)] w fun e w' => e = .returned (.string (bs (fx (k + 1) n))) ∧ Below w.heap.size w w' := by
  have hnk : n < 10 ^ 12 := Nat.lt_of_lt_of_le hn (Nat.pow_le_pow_right (by omega) hk)
  have p12 : (10 : Nat) ^ 12 = 1000000000000 := by decide
  have hd := nd_le k n hn
  obtain ⟨c, hc⟩ : ∃ c, k + 1 - nDigits n = c := ⟨_, rfl⟩
  have H1 := Lib.hid (fmt_any n (by omega) w htab)
  have H2 := Lib.hid (rep_any c (by omega))
  have HE := Lib.hid (show bs (fx (k + 1) n) = bs (List.replicate c 48) ++ bs (decDigits n) by rw [← fx_pad k n hn, hc, bs_app])
  have hs1 : (bs (decDigits n)).size = nDigits n := by rw [size_bs, decDigits_length]
  have hs2 : (bs (List.replicate c 48)).size = c := by rw [size_bs, List.length_replicate]
  obtain ⟨x, ex⟩ : ∃ x, bs (decDigits n) = x := ⟨_, rfl⟩
  obtain ⟨y, ey⟩ : ∃ y, bs (List.replicate c (48 : UInt8)) = y := ⟨_, rfl⟩
  obtain ⟨K, hK⟩ : ∃ K, k + 1 = K := ⟨_, rfl⟩
  rw [ex] at H1 hs1 HE
  rw [ey] at H2 hs2 HE
  rw [hK] at hc HE hd ⊢
  have e1 : (K : Int) - (x.size : Int) = (c : Int) := by omega
  have e2 : IntKind.i64.wrap (c : Int) = (c : Int) := IntWalk.i64_in _ (by omega)
  have z1 : ¬ 9223372036854775807 < y.size + x.size := by omega
  clear htab hn hnk p12 hd hc hs1 hs2 ex ey hK
  go_enter Tryz.func53, Tryz.ntmps53
  go_wp2_with fail
  refine H1.out.mono ?_
  rintro e w1 ⟨rfl, hb⟩
  have HB := Lib.hid hb
  clear hb
  go_wp2_with fail
  refine (H2.out _).mono ?_
  rintro e w2 ⟨rfl, hb⟩
  have HB2 := Lib.hid (bel_trans HB.out hb)
  clear hb
  go_wp2_with fail
  go_ret
  exact ⟨by rw [HE.out]; rfl, HB2.out⟩
/-- Name's text -/
def nmS (g n : Int) : ByteArray := if (0 ≤ g ∧ g ≤ 99999999) ∧ (0 ≤ n ∧ n ≤ 1048576) then bs (namL g.toNat n.toNat) else ⟨#[]⟩
set_option maxRecDepth 20000 in
set_option maxHeartbeats 2000000 in
theorem name_any (g n : Int) (w : World) (htab : PowT w) :
    Calls Tryz.prog 19 #[.int .i64 g, .int .i64 n] w fun e w' => e = .returned (.string (nmS g n)) ∧ Below w.heap.size w w' := by
  by_cases hg : 0 ≤ g ∧ g ≤ 99999999
  case neg =>
    have HE := Lib.hid (show nmS g n = ⟨#[]⟩ from if_neg (fun h => hg h.1))
    rcases (show g < 0 ∨ (¬ g < 0 ∧ 99999999 < g) by omega) with h1 | ⟨h1, h2⟩
    · have d1 : decide (g < 0) = true := decide_eq_true h1
      clear hg htab h1
      go_enter Tryz.func19, Tryz.ntmps19
      go_wp2_with fail
      go_ret
      exact ⟨by rw [HE.out]; rfl, Below.refl _ _⟩
    · have d1 : decide (g < 0) = false := decide_eq_false h1
      have d2 : decide ((99999999 : Int) < g) = true := decide_eq_true h2
      clear hg htab h1 h2
      go_enter Tryz.func19, Tryz.ntmps19
      go_wp2_with fail
      go_ret
      exact ⟨by rw [HE.out]; rfl, Below.refl _ _⟩
  have d1 : decide (g < 0) = false := decide_eq_false (by omega)
  have d2 : decide ((99999999 : Int) < g) = false := decide_eq_false (by omega)
  by_cases hn : 0 ≤ n ∧ n ≤ 1048576
  case neg =>
    have HE := Lib.hid (show nmS g n = ⟨#[]⟩ from if_neg (fun h => hn h.2))
    have HN := Lib.hid (number_any' n w)
    rw [decide_eq_false hn] at HN
    clear hg htab hn
    go_enter Tryz.func19, Tryz.ntmps19
    go_wp2_with fail
    refine HN.out.mono ?_
    rintro e w1 ⟨rfl, rfl⟩
    go_wp2_with fail
    go_ret
    exact ⟨by rw [HE.out]; rfl, Below.refl _ _⟩
  have HN := Lib.hid (number_any' n w)
  rw [decide_eq_true hn] at HN
  have hE : nmS g n = bs (namL g.toNat n.toNat) := if_pos ⟨hg, hn⟩
  obtain ⟨G, rfl⟩ : ∃ G : Nat, g = G := ⟨g.toNat, by omega⟩
  obtain ⟨M, rfl⟩ : ∃ M : Nat, n = M := ⟨n.toNat, by omega⟩
  rw [Int.toNat_natCast, Int.toNat_natCast] at hE
  have p8 : (10 : Nat) ^ (7 + 1) = 100000000 := by decide
  have p10 : (10 : Nat) ^ (9 + 1) = 10000000000 := by decide
  have H1 := fun w h => padded_any G 7 (by omega) (by omega) w h
  have H2 := fun w h => padded_any M 9 (by omega) (by omega) w h
  have hs1 : (bs (fx (7 + 1) G)).size = 8 := by rw [size_bs, fx_len]
  have hs2 : (bs (fx (9 + 1) M)).size = 10 := by rw [size_bs, fx_len]
  have hE2 : nmS G M = ⟨#[115]⟩ ++ bs (fx (7 + 1) G) ++ ⟨#[45]⟩ ++ bs (fx (9 + 1) M) := by
    rw [hE]
    refine ba_ext ?_
    rw [bs_data, data_app, data_app, data_app, bs_data, bs_data]
    unfold namL
    simp
  obtain ⟨x, ex⟩ : ∃ x, bs (fx (7 + 1) G) = x := ⟨_, rfl⟩
  obtain ⟨y, ey⟩ : ∃ y, bs (fx (9 + 1) M) = y := ⟨_, rfl⟩
  rw [ex] at hs1 hE2 H1
  rw [ey] at hs2 hE2 H2
  have HE := Lib.hid hE2
  have K1 := Lib.hid (show ∀ w, PowT w → Calls Tryz.prog 53 #[.int .i64 (G : Int), .int .i64 8] w fun e w' => e = .returned (.string x) ∧ Below w.heap.size w w' from H1)
  have K2 := Lib.hid (show ∀ w, PowT w → Calls Tryz.prog 53 #[.int .i64 (M : Int), .int .i64 10] w fun e w' => e = .returned (.string y) ∧ Below w.heap.size w w' from H2)
  have HT := Lib.hid htab
  have d3 : (G : Int) ≤ 99999999 := by omega
  have z1 : ¬ 9223372036854775807 < 1 + x.size := by omega
  have z2 : ¬ 9223372036854775807 < 1 + x.size + 1 := by omega
  have z3 : ¬ 9223372036854775807 < 1 + x.size + 1 + y.size := by omega
  clear hE hE2 H1 H2 ex ey p8 p10 htab hg hn hs1 hs2
  go_enter Tryz.func19, Tryz.ntmps19
  go_wp2_with fail
  refine HN.out.mono ?_
  rintro e w1 ⟨rfl, rfl⟩
  go_wp2_with fail
  refine (K1.out _ HT.out).mono ?_
  rintro e w2 ⟨rfl, hb⟩
  have HB2 := Lib.hid hb
  clear hb
  go_wp2_with fail
  refine (K2.out _ (HT.out.keep HB2.out)).mono ?_
  rintro e w3 ⟨rfl, hb⟩
  have HB3 := Lib.hid (bel_trans HB2.out hb)
  clear hb
  go_wp2_with fail
  go_ret
  exact ⟨by rw [HE.out]; rfl, HB3.out⟩
end Go.Proofs.YtaonjbkkgeiniaaGreatDoor
