/- soukref03.Show, Text. -/
import Derived.Test.YtikjnfghlohjkaaDoorMonSL
namespace Go.Proofs.YtikjnfghlohjkaaDoor
open Go.RowKit Go.Shelf Go.Lib

def bS (l : List UInt8) : ByteArray := ⟨l.toArray⟩
theorem size_bS (l : List UInt8) : (bS l).size = l.length := by unfold bS; show l.toArray.size = _; simp
theorem bS_cons (y : UInt8) (r : List UInt8) : bS (y :: r) = ⟨#[y]⟩ ++ bS r := by
  apply ByteArray.ext; apply Array.toList_inj.1; unfold bS; simp
theorem conv_dig (c : Nat) (hc : c < 10) (W : World) (h : Nat) (h0 : W.cell? ⟨h, 0, none⟩ = some (.int .u8 (48 + (c : Int)))) :
    (convert 64 9 (.slice (some ⟨h, 0, none⟩) 1 1)).run Tryd.prog W = .ok (.string ⟨#[UInt8.ofNat (48 + c)]⟩) W := by
  refine run_convert_bytes_back _ _ _ 5 _ _ [UInt8.ofNat (48 + c)] Tryd.underlying64 Tryd.underlying5 Tryd.underlying9 ?_
  intro j hj
  obtain rfl : j = 0 := by simpa using hj
  refine h0.trans ?_
  show _ = some (Value.int .u8 ((UInt8.ofNat (48 + c)).toNat : Int))
  rw [dig_nat c hc]
  rfl
set_option maxRecDepth 20000 in
set_option maxHeartbeats 4000000 in
theorem rshow_any (u : Nat) (hu : u < 9223372036854775809) (g : Bool) (hg : g = true ∨ u < 9223372036854775808) (w : World) :
    Calls Tryd.prog 28 #[.int .i64 (if g = true then -(u : Int) else u)] w fun e w' => e = .returned (.string (bS (amL u))) ∧ Below w.heap.size w w' := by
  go_enter Tryd.func28, Tryd.ntmps28
  obtain ⟨N, hN⟩ : ∃ N : Int, N = if g = true then -(u : Int) else u := ⟨_, rfl⟩
  rw [← hN]
  have HN := Lib.hid hN
  clear hN
  go_wp2_with fail
  go_loopw [0, 3, 4] (fun nv sv iv wr => ∃ (i x : Nat) (r : List UInt8) (n : Int), nv = .int .i64 n ∧ sv = .string (bS r) ∧ iv = .int .i64 i ∧ n = (if g = true then -(x : Int) else x) ∧ SInv u i x r ∧ Below w.heap.size w wr) (fun nv _ iv _ => (3 - (RowKit.intOf iv).toNat) + (RowKit.intOf nv).natAbs)
  case atStart => exact ⟨0, u, [], _, rfl, rfl, rfl, HN.out, SInv.start u, Below.refl _ _⟩
  case round =>
    obtain ⟨i, x, r, n, rfl, rfl, rfl, hn, hI, hb⟩ := hrel
    obtain ⟨b1, b2⟩ := hI.bound (by omega)
    have hx := hI.1
    have HB := Lib.hid hb
    have HI := Lib.hid hI
    have HNX := Lib.hid hn
    obtain ⟨c, hc⟩ : ∃ c, x % 10 = c := ⟨_, rfl⟩
    obtain ⟨q, hq⟩ : ∃ q, x / 10 = q := ⟨_, rfl⟩
    have hcl : c < 10 := by omega
    obtain ⟨y, ey⟩ : ∃ y : ByteArray, ⟨#[UInt8.ofNat (48 + c)]⟩ = y := ⟨_, rfl⟩
    have hcv : ∀ (W : World) (h : Nat), W.cell? ⟨h, 0, none⟩ = some (.int .u8 (48 + (c : Int))) → (convert 64 9 (.slice (some ⟨h, 0, none⟩) 1 1)).run Tryd.prog W = .ok (.string y) W := by rw [← ey]; exact conv_dig c hcl
    have hy : y.size = 1 := by rw [← ey]; rfl
    obtain ⟨d, hd⟩ : ∃ d : Int, n.tmod 10 = d := ⟨_, rfl⟩
    obtain ⟨n', hn'⟩ : ∃ n' : Int, n.tdiv 10 = n' := ⟨_, rfl⟩
    have e1 : n' = (if g = true then -(q : Int) else q) ∧ d = (if g = true then -(c : Int) else c) := by
      rw [← hn', ← hd, hn]
      cases g
      · simp only [Bool.false_eq_true, if_false]
        rw [Int.tdiv_eq_ediv_of_nonneg (by omega), Int.tmod_eq_emod_of_nonneg (by omega)]
        omega
      · simp only [if_true]
        rw [Int.neg_tdiv, Int.neg_tmod, Int.tdiv_eq_ediv_of_nonneg (by omega), Int.tmod_eq_emod_of_nonneg (by omega)]
        omega
    have E1 := Lib.hid e1
    have hg2 : g = false → u < 9223372036854775808 := fun e => hg.resolve_left (by rw [e]; exact Bool.false_ne_true)
    have hnb : -9223372036854775808 ≤ n ∧ n ≤ 9223372036854775807 := by
      rw [hn]
      cases g with
      | true => simp; omega
      | false => have := hg2 rfl; simp; omega
    have hnb' : -9223372036854775808 ≤ n' ∧ n' ≤ 9223372036854775807 := by
      rw [e1.1]
      cases g with
      | true => simp; omega
      | false => have := hg2 rfl; simp; omega
    have hdb : (d < 0 ∧ -d = (c : Int)) ∨ (0 ≤ d ∧ d = (c : Int)) := by rw [e1.2]; cases g <;> simp <;> omega
    have hys : y.size + (bS r).size ≤ 25 ∧ 1 + (bS r).size ≤ 25 := by rw [size_bS]; omega
    obtain ⟨R, hR⟩ : ∃ R, bS r = R := ⟨_, rfl⟩
    rw [hR] at hys
    have HR := Lib.hid hR
    have EY := Lib.hid ey
    have HC := Lib.hid hc
    have HQ := Lib.hid hq
    have HX := Lib.hid hx
    have f1 : IntKind.u8.wrap (48 + (c : Int)) = 48 + (c : Int) := by rw [IntKind.wrap_u8]; omega
    have f2 : IntKind.i64.wrap (48 + (c : Int)) = 48 + (c : Int) := IntWalk.i64_in _ (by omega)
    have f3 : IntKind.i64.wrap d = d := IntWalk.i64_in _ (by omega)
    have f4 : IntKind.i64.wrap n' = n' := IntWalk.i64_in _ (by omega)
    have f5 : IntKind.i64.wrap (c : Int) = (c : Int) := IntWalk.i64_in _ (by omega)
    rw [hR]
    have hzn : (x = 0 → n = 0) ∧ (x ≠ 0 → n ≠ 0) := by rw [hn]; cases g <;> simp <;> omega
    have hmeas : ∀ k : Nat, (i < 3 ∨ x ≠ 0) → k = i + 1 → (3 - k) + n'.natAbs < (3 - i) + n.natAbs := by
      intro k hk ek
      have h1 : n'.natAbs = q := by rw [e1.1]; cases g <;> simp
      have h2 : n.natAbs = x := by rw [hn]; cases g <;> simp
      omega
    have HM := Lib.hid hmeas
    clear hI hb hn e1 hR ey hc hq hx hmeas
    by_cases hgo : i < 3 ∨ x ≠ 0
    · by_cases hi2 : i = 2
      · subst hi2
        have hst := HI.out.dot
        rw [HC.out, HQ.out] at hst
        have HST := Lib.hid hst
        have z1 : ¬ 9223372036854775807 < 1 + R.size := by omega
        have z2 : ¬ 9223372036854775807 < y.size + (1 + R.size) := by omega
        clear hst hzn hnb hnb' hg2
        rcases hdb with ⟨d1, d2⟩ | ⟨d1, d2⟩
        all_goals
          go_wp2_with fail
          refine ⟨⟨3, q, UInt8.ofNat (48 + c) :: 46 :: r, n', rfl, ?_, rfl, E1.out.1, HST.out, HB.out.alloc HB.out.size _⟩, ?_⟩
          · rw [bS_cons, bS_cons, HR.out, EY.out]
          · have := HM.out 3 (by omega) rfl
            simp [RowKit.intOf]; omega
      · have hst := HI.out.step hi2 hgo
        rw [HC.out, HQ.out] at hst
        have HST := Lib.hid hst
        have z2 : ¬ 9223372036854775807 < y.size + R.size := by omega
        have t2 : ((i : Int) == 2) = false := by rw [beq_eq_false_iff_ne]; omega
        have HGO := Lib.hid hgo
        have t1 : decide ((i : Int) < 3) = true ∨ (decide ((i : Int) < 3) = false ∧ (n != 0) = true) := by
          by_cases h : i < 3
          · exact .inl (decide_eq_true (by omega))
          · exact .inr ⟨decide_eq_false (by omega), by rw [bne_iff_ne]; exact hzn.2 (by omega)⟩
        clear hst hzn hnb hnb' hg2 hgo
        rcases t1 with t1 | ⟨t1, t3⟩
        all_goals
          rcases hdb with ⟨d1, d2⟩ | ⟨d1, d2⟩
          all_goals
            go_wp2_with fail
            refine ⟨⟨i + 1, q, UInt8.ofNat (48 + c) :: r, n', rfl, ?_, val_int (by omega), E1.out.1, HST.out, HB.out.alloc HB.out.size _⟩, ?_⟩
            · rw [bS_cons, HR.out, EY.out]
            · have := HM.out (i + 1) HGO.out rfl
              simp [RowKit.intOf]; omega
    · have hx0 : x = 0 := by omega
      have hn0 := hzn.1 hx0
      have hdone := HI.out.done (by omega) hx0
      have t1 : decide ((i : Int) < 3) = false := decide_eq_false (by omega)
      have HD := Lib.hid hdone
      subst hn0
      clear hzn hgo hx0 hdone hdb hd hn'
      go_wp2_with fail
      go_ret
      exact ⟨by rw [← HR.out, HD.out]; rfl, HB.out⟩
/-- the number that is shown -/
theorem rtext_any (n : Int) (hn : -9223372036854775808 ≤ n ∧ n ≤ 9223372036854775807) (w : World) :
    Calls Tryd.prog 16 #[.int .i64 n] w fun e w' => e = .returned (.string (shS n)) ∧ Below w.heap.size w w' := by
  have hsz := am_len n.natAbs (by omega)
  rw [sh_bs]
  by_cases h : n < 0
  · have H := rshow_any n.natAbs (by omega) true (.inl rfl)
    rw [if_pos rfl, show -(n.natAbs : Int) = n by omega] at H
    have h1 : sgL n = [45] := if_pos h
    rw [h1]
    have d1 : decide (n < 0) = true := decide_eq_true h
    obtain ⟨R, hR⟩ : ∃ R, bS (amL n.natAbs) = R := ⟨_, rfl⟩
    have hRs : R.size ≤ 23 := by rw [← hR, size_bS]; exact hsz
    have z : ¬ 9223372036854775807 < 1 + R.size := by omega
    have HE := Lib.hid (show (⟨(45 :: amL n.natAbs).toArray⟩ : ByteArray) = ⟨#[45]⟩ ++ R by rw [← hR]; exact bS_cons 45 _)
    rw [hR] at H
    have HH := Lib.hid H
    clear H h1 hR h hsz
    go_enter Tryd.func16, Tryd.ntmps16
    go_wp2_with fail
    refine (HH.out _).mono ?_
    rintro e w1 ⟨rfl, hb⟩
    have HB := Lib.hid hb
    clear hb
    go_wp2_with fail
    go_ret
    exact ⟨by rw [HE.out]; rfl, HB.out⟩
  · have H := rshow_any n.natAbs (by omega) false (.inr (by omega))
    rw [if_neg Bool.false_ne_true, show (n.natAbs : Int) = n by omega] at H
    have h1 : sgL n = [] := if_neg h
    rw [h1, List.nil_append]
    have d1 : decide (n < 0) = false := decide_eq_false h
    have HH := Lib.hid H
    clear H h1 h hsz
    go_enter Tryd.func16, Tryd.ntmps16
    go_wp2_with fail
    refine (HH.out _).mono ?_
    rintro e w1 ⟨rfl, hb⟩
    have HB := Lib.hid hb
    clear hb
    go_wp2_with fail
    go_ret
    exact ⟨rfl, HB.out⟩
end Go.Proofs.YtikjnfghlohjkaaDoor
