/- souklaw12.IndexFound. -/
import Derived.Test.YtmeefecpnfclpaaIdxV
import Derived.BigQuiet
namespace Go.Proofs.Ytmeefecpnfclpaa
open Go.RowKit Go.Shelf
attribute [local go_sem] Oper.semAt_some

/-- the n-th frame of a segment that was made, read -/
theorem read_join (f : Nat) (z : List ByteArray) (i : Nat) (hi : i < z.length) (h : jnE f (paysL z) = 0) (hs : (bs (jnL f (paysL z))).size ≤ 1000000) (w : World) :
    ∃ nx : Int, Calls Try.prog 19 #[.string (bs (jnL f (paysL z))), .int .i64 ((16 + sizeF ((paysL z).take i) : Nat) : Int)] w
      fun e w' => e = .returned (.tuple #[.agg #[.int .i64 ((f + i : Nat) : Int), .string (z.getD i ByteArray.empty), .int .i64 ((16 + sizeF ((paysL z).take i) : Nat) : Int)], .int .i64 nx, .int .i64 0]) ∧ Below w.heap.size w w' := by
  obtain ⟨_, _, _, _, h4⟩ := jn_ok h
  have hl := (seg_scan h).1
  have hi' : i < (paysL z).length := by rw [pays_len]; exact hi
  obtain ⟨g1, g2, g3, g4, g5⟩ := join_at (paysL z) (hdrL f) f i hi' h4
  have hj : hdrL (f : Int).toNat = hdrL f := rfl
  rw [hj] at hl
  rw [hdr_len, ← hl] at g1 g2 g3 g4 g5
  have hd : (bs (jnL f (paysL z))).data.toList = jnL f (paysL z) := bs_data _
  have hle : 16 + sizeF ((paysL z).take i) ≤ (bs (jnL f (paysL z))).size := by
    have := (fE_zero g1).1
    rw [size_bs]; omega
  have hr := read_any (bs (jnL f (paysL z))) ((16 + sizeF ((paysL z).take i) : Nat) : Int) w hs
  rw [readV_good _ _ hle (by rw [hd]; exact g1)] at hr
  unfold frAt frV frCells at hr
  rw [hd, g3, g5, pays_get z i hi hi'] at hr
  rw [show ((fQ (jnL f (paysL z)) (16 + sizeF ((paysL z).take i)) : Nat) : Int) = ((f + i : Nat) : Int) by omega] at hr
  exact ⟨_, hr⟩


theorem sq_int {f i : Nat} : ((f : Int) + (i : Int)) = ((f + i : Nat) : Int) := by omega

set_option maxRecDepth 100000 in
set_option maxHeartbeats 4000000 in
/-- much, or nothing is made -/
theorem found_bad {len cap : Nat} {oa : Option Addr} (f e : Int) (z : List ByteArray) (w : World) (h : StrsIn w oa len cap z)
    (hbd : sizeF (paysL z) + 4 * len < 12000 → bdE e (jnL f (paysL z)) ≠ 0) :
    Calls Try.prog 4 #[.int .i64 f, .slice oa len cap, .int .i64 e] w fun e' w' => e' = .returned (.bool true) ∧ Below w.heap.size w w' := by
  have HZ := Lib.hid h
  have HBD := Lib.hid hbd
  clear h hbd
  go_enter Try.func4, Try.ntmps4
  go_wp2_with fail
  refine (works12 w).mono ?_
  rintro e' w1 ⟨rfl, hb1⟩
  have HB1 := Lib.hid hb1
  have HZ1 := Lib.hid (strs_keep HZ.out hb1)
  clear hb1
  go_wp2_with fail
  refine (heavy_any z w1 HZ1.out).mono ?_
  rintro e' w2 ⟨b, rfl, hv, rfl⟩
  have HV := Lib.hid hv
  clear hv
  cases b with
  | true =>
    go_wp2_with fail
    refine (works12 w1).mono ?_
    rintro e' w2 ⟨rfl, hb2⟩
    have HB2 := Lib.hid (HB1.out.trans (hb2.mono HB1.out.size))
    clear hb2
    go_wp2_with fail
    go_ret
    exact ⟨rfl, HB2.out⟩
  | false =>
    have hlt := HV.out rfl
    have hbd := HBD.out hlt
    obtain ⟨E, hE⟩ : ∃ E, bdE e (jnL f (paysL z)) = E := ⟨_, rfl⟩
    obtain ⟨J, hJ⟩ : ∃ J, jnE f (paysL z) = J := ⟨_, rfl⟩
    have hjn := fun w' hw' => join_any f z w' (show StrsIn w' oa len cap z from hw')
    have hsz : (bs (jnL f (paysL z))).size ≤ 1000000 := by
      rw [size_bs]
      by_cases hj : jnE f (paysL z) = 0
      · rw [(seg_scan hj).2.1]; omega
      · unfold jnL; rw [if_neg hj]; decide
    have hbu := fun w' => build_any (bs (jnL f (paysL z))) e w' hsz
    rw [show (bs (jnL f (paysL z))).data.toList = jnL f (paysL z) from bs_data _, hE] at hbu
    rw [hE] at hbd
    rw [hJ] at hjn
    have d3 : ((E : Int) != 0) = true := by rw [bne_iff_ne]; omega
    have HJ := Lib.hid hjn
    have HBU := Lib.hid hbu
    clear hjn hbu hE HBD HV
    go_wp2_with fail
    refine (HJ.out w1 HZ1.out).mono ?_
    rintro e' w2 ⟨rfl, hb2⟩
    have HB2 := Lib.hid (HB1.out.trans (hb2.mono HB1.out.size))
    clear hb2
    go_wp2_with fail
    refine (HBU.out w2).mono ?_
    rintro e' w3 (⟨_, rfl, hb3⟩ | ⟨h, _⟩)
    rotate_left
    · exact absurd h hbd
    have HB3 := Lib.hid (HB2.out.trans (hb3.mono HB2.out.size))
    clear hb3
    by_cases hj0 : J = 0
    · have d4 : ((J : Int) != 0) = false := by rw [hj0]; rfl
      go_wp2_with fail
      go_ret
      exact ⟨rfl, HB3.out⟩
    · have d4 : ((J : Int) != 0) = true := by rw [bne_iff_ne]; omega
      go_wp2_with fail
      go_ret
      exact ⟨rfl, HB3.out⟩

set_option maxRecDepth 100000 in
set_option maxHeartbeats 8000000 in
theorem found_ok {len cap : Nat} {oa : Option Addr} (f N : Nat) (z : List ByteArray) (w : World) (h : StrsIn w oa len cap z) (hN1 : 1 ≤ N) (hN2 : N ≤ 64) (hlt : sizeF (paysL z) + 4 * len < 12000) (hj : jnE f (paysL z) = 0) :
    Calls Try.prog 4 #[.int .i64 f, .slice oa len cap, .int .i64 N] w fun e' w' => e' = .returned (.bool true) ∧ Below w.heap.size w w' := by
  obtain ⟨j0, j1, j2, j3, j4⟩ := jn_ok hj
  obtain ⟨q1, q2, q3, q4, q5, q6⟩ := seg_scan hj
  rw [pays_len] at j1
  have hzl := h.1
  have hbd : bdE N (jnL f (paysL z)) = 0 := by unfold bdE; rw [if_neg (by omega)]; exact q3
  have hsz : (bs (jnL f (paysL z))).size = 16 + sizeF (paysL z) := by rw [size_bs, q2]
  have hF : ixF (jnL f (paysL z)) = f := by unfold ixF; omega
  have hP : ixP (jnL f (paysL z)) = placesF 16 (paysL z) := by
    unfold ixP; rw [show ((hdF (jnL f (paysL z)) : Nat) : Int) = f by omega]; exact q5
  have hG : ixG (jnL f (paysL z)) = 16 + sizeF (paysL z) := by
    unfold ixG; rw [show ((hdF (jnL f (paysL z)) : Nat) : Int) = f by omega]; exact q6
  have hjn := fun w' hw' => join_any f z w' (show StrsIn w' oa len cap z from hw')
  have hbu := fun w' => build_any (bs (jnL f (paysL z))) N w' (by rw [hsz]; omega)
  rw [show (bs (jnL f (paysL z))).data.toList = jnL f (paysL z) from bs_data _, hbd, hF, hP, hG, Int.toNat_natCast] at hbu
  rw [hj] at hjn
  have hpl : (placesF 16 (paysL z)).length = len := by rw [places_len, pays_len, hzl]
  have hple : ∀ p ∈ placesF 16 (paysL z), p ≤ 1000000000 := by
    intro p hp
    obtain ⟨i, hi, rfl⟩ := List.mem_iff_getElem.1 hp
    have hi' : i < (paysL z).length := by rw [places_len] at hi; exact hi
    have hg := places_get (paysL z) 16 i hi'
    rw [List.getElem?_eq_getElem hi] at hg
    rw [Option.some.inj hg]
    have := size_take_le (paysL z) i
    omega
  have hge := fun b w' i hw' (hi : i < len) => (show Calls Try.prog 12 #[.pointer (some ⟨b, 0, none⟩), .string (bs (jnL f (paysL z))), .int .i64 ((f + i : Nat) : Int)] w' fun e' w'' => e' = .returned (.tuple #[.string (z.getD i ByteArray.empty), .int .i64 0]) ∧ Below w'.heap.size w' w'' by
    have h0 := get_any b N f (16 + sizeF (paysL z)) (placesF 16 (paysL z)) (bs (jnL f (paysL z))) ((f + i : Nat) : Int) w' (by omega) (by rw [hpl]; omega) (by rw [hsz]; omega) hple hw'
    obtain ⟨g1, g2⟩ := getP_made (e := N) hj i (by rw [pays_len]; omega)
    rw [show (bs (jnL f (paysL z))).data.toList = jnL f (paysL z) from bs_data _, g1, g2, pays_get z i (by omega)] at h0
    exact h0)
  have hgn := fun b w' hw' => (show Calls Try.prog 12 #[.pointer (some ⟨b, 0, none⟩), .string (bs (jnL f (paysL z))), .int .i64 ((f + len : Nat) : Int)] w' fun e' w'' => ∃ p, e' = .returned (.tuple #[.string p, .int .i64 5]) ∧ Below w'.heap.size w' w'' by
    have h0 := get_any b N f (16 + sizeF (paysL z)) (placesF 16 (paysL z)) (bs (jnL f (paysL z))) ((f + len : Nat) : Int) w' (by omega) (by rw [hpl]; omega) (by rw [hsz]; omega) hple hw'
    rw [getE_out (f := f) (ls := paysL z) (by rw [pays_len]; omega)] at h0
    exact h0.mono fun _ _ k => ⟨_, k⟩)
  have hst := fun b w' i hw' (hi : i < len) => steps_yes b N f (16 + sizeF (paysL z)) (placesF 16 (paysL z)) (f + i) w' (by omega) (by rw [hpl]; omega) hw' (by omega) (by rw [hpl]; omega)
  have hrd := fun i (hi : i < len) w' => read_join f z i (by omega) hj (by rw [hsz]; omega) w'
  have hmg := fun i (hi : i * N < len) => marks_get N f (placesF 16 (paysL z)) i ((cnt_lt N _ i (by omega)).2 (by rw [hpl]; exact hi))
  have hma := fun b w' hw' => marks_any b N f (16 + sizeF (paysL z)) (placesF 16 (paysL z)) w' (by omega) (by rw [hpl]; omega) hw'
  have hnx := fun b w' hw' => ixNext b N f (16 + sizeF (paysL z)) (placesF 16 (paysL z)) w' hw'
  have hgd := fun b w' hw' => ixGood b N f (16 + sizeF (paysL z)) (placesF 16 (paysL z)) w' hw'
  have hpg := fun i (hi : i < len) => places_getD (paysL z) 16 i (by rw [pays_len]; omega)
  have hci := fun i => cnt_lt N len i (by omega)
  rw [hpl] at hma hnx
  have hcm : ((len : Int) + N - 1).tdiv N = (cntM N len : Int) := by
    unfold cntM
    rw [Int.tdiv_eq_ediv_of_nonneg (by omega), Int.natCast_ediv]
    congr 1; omega
  have hcl := cnt_le N len (by omega)
  rw [← hsz] at hge hgn hst hma hnx hgd hbu
  have hb12 : 16 + sizeF (paysL z) < 13000 := by omega
  rw [← hsz] at hb12
  have hfl : f + len ≤ 1048576 := by omega
  have hcs : ∀ i, i < len → ∀ w', StrsIn w' oa len cap z → ∃ bb off, oa = some ⟨bb, off, none⟩ ∧ bb < w'.heap.size ∧ w'.cell? ⟨bb, off + i, none⟩ = some (.string (z.getD i ByteArray.empty)) := by
    rintro i hi w' ⟨_, _, _, _, hcl⟩
    rcases hcl with h0 | ⟨bb, off, rfl, hbb, hc⟩
    · omega
    · exact ⟨bb, off, rfl, hbb, hc i hi⟩
  generalize placesF 16 (paysL z) = ps at *
  clear hF hG hP q1 q2 q3 q4 q5 q6 j0 j1 j2 j3 j4 hbd hj hsz
  generalize bs (jnL f (paysL z)) = S at *
  have HZ := Lib.hid h
  have HJ := Lib.hid hjn
  have HRD := Lib.hid hrd
  have HCI := Lib.hid hci
  have HCM := Lib.hid hcm
  have HCL := Lib.hid hcl
  have HBU := Lib.hid hbu
  have HGE := Lib.hid hge
  have HGN := Lib.hid hgn
  have HST := Lib.hid hst
  have HMG := Lib.hid hmg
  have HMA := Lib.hid hma
  have HNX := Lib.hid hnx
  have HGD := Lib.hid hgd
  have HPG := Lib.hid hpg
  have HCS := Lib.hid hcs
  have HLT := Lib.hid hlt
  clear h hjn hrd hci hcm hcl hbu hge hgn hst hmg hma hnx hgd hpg hcs hple hlt
  go_enter Try.func4, Try.ntmps4
  go_wp2_with fail
  refine (works12 w).mono ?_
  rintro e' w1 ⟨rfl, hb1⟩
  have HB1 := Lib.hid hb1
  have HZ1 := Lib.hid (strs_keep HZ.out hb1)
  clear hb1
  go_wp2_with fail
  refine (heavy_any z w1 HZ1.out).mono ?_
  rintro e' w2 ⟨b, rfl, hv, rfl⟩
  clear hv
  cases b with
  | true =>
    go_wp2_with fail
    refine (works12 w1).mono ?_
    rintro e' w2 ⟨rfl, hb2⟩
    have HB2 := Lib.hid (HB1.out.trans (hb2.mono HB1.out.size))
    clear hb2
    go_wp2_with fail
    go_ret
    exact ⟨rfl, HB2.out⟩
  | false =>
    go_wp2_with fail
    refine (HJ.out w1 HZ1.out).mono ?_
    rintro e' w2 ⟨rfl, hb2⟩
    have HB2 := Lib.hid (HB1.out.trans (hb2.mono HB1.out.size))
    have HZ2 := Lib.hid (strs_keep HZ1.out hb2)
    clear hb2
    go_wp2_with fail
    refine (HBU.out w2).mono ?_
    rintro e' w3 (⟨h, _⟩ | ⟨_, b, rfl, hbb, hix, hb3⟩)
    · exact absurd rfl h
    have HB3 := Lib.hid (HB2.out.trans (hb3.mono HB2.out.size))
    have HZ3 := Lib.hid (strs_keep HZ2.out hb3)
    have HI := Lib.hid hix
    clear hb3 hix
    go_wp2_with fail
    go_loopw [11] (fun iv W => ∃ i : Nat, i ≤ len ∧ iv = .int .i64 i ∧ Below w3.heap.size w3 W) (fun iv _ => len - (intOf iv).toNat)
    case atStart => exact ⟨0, Nat.zero_le _, rfl, Below.refl _ _⟩
    case round =>
      obtain ⟨i, hi, rfl, hbl⟩ := hrel
      have HBI := Lib.hid hbl
      clear hbl
      by_cases hin : i < len
      · have hw : IntKind.i64.wrap ((f : Int) + (i : Int)) = ((f + i : Nat) : Int) := by rw [IntWalk.i64_in _ (by omega)]; omega
        obtain ⟨y, hy⟩ : ∃ y, z.getD i ByteArray.empty = y := ⟨_, rfl⟩
        have hgi := HGE.out b wr i (HI.out.keep HBI.out) hin
        rw [hy] at hgi
        have HGI := Lib.hid hgi
        clear hgi
        go_wp2_with fail
        refine HGI.out.mono ?_
        rintro e' w4 ⟨rfl, hb4⟩
        have HB4 := Lib.hid (HBI.out.trans (hb4.mono HBI.out.size))
        clear hb4
        go_wp2_with fail
        refine (HST.out b _ i (HI.out.keep HB4.out) hin).mono ?_
        rintro e' w5 ⟨rfl, hb5⟩
        have HB5 := Lib.hid (HB4.out.trans (hb5.mono HB4.out.size))
        clear hb5
        obtain ⟨bb, off, hoa, hbb5, hc⟩ := HCS.out i hin w5 (strs_keep HZ3.out HB5.out)
        obtain ⟨r, hr⟩ : ∃ r, (f + i - f) % N + 1 = r := ⟨_, rfl⟩
        have hr1 : 1 ≤ r ∧ r ≤ N := by have := Nat.mod_lt (f + i - f) (show N > 0 by omega); omega
        rw [hr]
        rw [hy] at hc
        have d1 : decide ((r : Int) < 1) = false := decide_eq_false (by omega)
        have d2 : decide ((N : Int) < (r : Int)) = false := decide_eq_false (by omega)
        subst hoa
        clear hr hy
        go_wp2_with fail
        refine ⟨⟨i + 1, by omega, rfl, HB5.out⟩, ?_⟩
        simp [intOf]; omega
      · obtain rfl : i = len := by omega
        clear HGE HST HCS
        go_wp2_with fail
        refine (HMA.out b wr (HI.out.keep HBI.out)).mono ?_
        rintro e' w4 ⟨oa', cap', rfl, hrow, _, hb4⟩
        have HB4 := Lib.hid (HBI.out.trans (hb4.mono HBI.out.size))
        have HROW := Lib.hid hrow
        clear hb4 hrow HMA
        go_wp2_with fail
        go_loopw [16] (fun iv W => ∃ j : Nat, j ≤ cntM N i ∧ iv = .int .i64 j ∧ Below w4.heap.size w4 W) (fun iv _ => cntM N i - (intOf iv).toNat)
        case atStart => exact ⟨0, Nat.zero_le _, rfl, Below.refl _ _⟩
        case round =>
          obtain ⟨j, hj, rfl, hbl⟩ := hrel
          have HBJ := Lib.hid hbl
          clear hbl
          by_cases hjn : j < cntM N i
          · have hQ := (HCI.out j).1 hjn
            obtain ⟨g, rfl, hg, _, hrc⟩ := mrow_cells HROW.out (by omega)
            have hm := HMG.out j hQ
            obtain ⟨r1, r2⟩ := mkRow_get _ _ _ hm
            have p0 := (HBJ.out.cell (p := ⟨g, j * 2, none⟩) hg).trans (hrc _ _ r1)
            have p1 := (HBJ.out.cell (p := ⟨g, j * 2 + 1, none⟩) hg).trans (hrc _ _ r2)
            obtain ⟨nx, hrd⟩ := HRD.out (j * N) hQ wr
            rw [← HPG.out (j * N) hQ] at hrd
            have hle : ps.getD (j * N) 0 ≤ 1000000 := by
              rw [HPG.out (j * N) hQ]
              have := size_take_le (paysL z) (j * N)
              have := HLT.out
              omega
            obtain ⟨y, hy⟩ : ∃ y, z.getD (j * N) ByteArray.empty = y := ⟨_, rfl⟩
            obtain ⟨A, hA⟩ : ∃ A, ps.getD (j * N) 0 = A := ⟨_, rfl⟩
            obtain ⟨Q, hQe⟩ : ∃ Q, j * N = Q := ⟨_, rfl⟩
            rw [hy] at hrd
            rw [hA] at hrd p0 p1 hle
            rw [hQe] at hrd p0 p1 hQ
            replace p0 : wr.cell? ⟨g, j * 2, none⟩ = some (.int .i64 ((f + Q : Nat) : Int)) := p0
            replace p1 : wr.cell? ⟨g, j * 2 + 1, none⟩ = some (.int .i64 (A : Int)) := p1
            have hwm : IntKind.i64.wrap ((j : Int) * (N : Int)) = (Q : Int) := by
              rw [show (j : Int) * (N : Int) = (Q : Int) by rw [← hQe, Int.natCast_mul]]
              exact IntWalk.i64_in _ (by omega)
            have hwa : IntKind.i64.wrap ((f : Int) + (Q : Int)) = ((f + Q : Nat) : Int) := by rw [IntWalk.i64_in _ (by omega)]; omega
            obtain ⟨M, hM⟩ : ∃ M, f + Q = M := ⟨_, rfl⟩
            rw [hM] at hrd p0 hwa
            have HRDI := Lib.hid hrd
            have P0 := Lib.hid p0
            have hgw : g < wr.heap.size := Nat.lt_of_lt_of_le hg HBJ.out.size
            clear hrd hrc hm r1 r2 hy hA hQe hM
            go_wp2_with fail
            refine HRDI.out.mono ?_
            rintro e' w5 ⟨rfl, hb5⟩
            have HB5 := Lib.hid (bel_alloc (HBJ.out.trans (hb5.mono HBJ.out.size)) (.cells #[.int .i64 M, .string y, .int .i64 A] 40))
            have k0 := (hb5.cell (p := ⟨g, j * 2, none⟩) hgw).trans P0.out
            have hgw5 : g < w5.heap.size := Nat.lt_of_lt_of_le hgw hb5.size
            clear hb5 p0 p1
            go_wp2_with fail
            have g0 : (w5.alloc (.cells #[.int .i64 M, .string y, .int .i64 A] 40)).cell? ⟨w5.heap.size, 0, none⟩ = some (.int .i64 M) := by rw [cell_of_row _ _ _ _ _ _ (heap_alloc_new _ _)]; rfl
            have g1 : (w5.alloc (.cells #[.int .i64 M, .string y, .int .i64 A] 40)).cell? ⟨g, j * 2, none⟩ = some (.int .i64 M) := by
              rw [← k0]; exact (((Below.refl w5.heap.size w5).alloc (Nat.le_refl _) _).cell (p := ⟨g, j * 2, none⟩) hgw5)
            have hjb : j < 1048576 := by have := HCL.out; omega
            go_quiet (fail)
            go_wp2_with fail
            refine ⟨⟨j + 1, by omega, rfl, ⟨HB5.out.os, HB5.out.tape, HB5.out.output, HB5.out.size, HB5.out.block⟩⟩, ?_⟩
            simp [intOf]; omega
          · obtain rfl : j = cntM N i := by omega
            have hwf : IntKind.i64.wrap ((f : Int) + (i : Int)) = ((f + i : Nat) : Int) := by rw [IntWalk.i64_in _ (by omega)]; omega
            have HB5 := Lib.hid (HB4.out.trans (HBJ.out.mono HB4.out.size))
            have hgn := HGN.out b wr (HI.out.keep HB5.out)
            have hnx := fun w' hw' => HNX.out b w' (HI.out.keep (show Below w3.heap.size w3 w' from hw'))
            obtain ⟨M, hM⟩ : ∃ M, f + i = M := ⟨_, rfl⟩
            rw [hM] at hgn hnx hwf
            have HGNI := Lib.hid hgn
            have HNXI := Lib.hid hnx
            clear hgn hnx hM
            go_wp2_with fail
            refine HGNI.out.mono ?_
            rintro e' w6 ⟨p, rfl, hb6⟩
            have HB6 := Lib.hid (HB5.out.trans (hb6.mono HB5.out.size))
            clear hb6
            obtain ⟨c, hc⟩ : ∃ c, cntM N i = c := ⟨_, rfl⟩
            have hcm := HCM.out
            rw [hc] at hcm
            have hw7 : IntKind.i64.wrap ((i : Int) + (N : Int)) = (i : Int) + (N : Int) := IntWalk.i64_in _ (by omega)
            have hw8 : IntKind.i64.wrap ((i : Int) + (N : Int) - 1) = (i : Int) + (N : Int) - 1 := IntWalk.i64_in _ (by omega)
            have hcb : c ≤ 1048576 := by have := HCL.out; omega
            have hw9 : IntKind.i64.wrap (c : Int) = (c : Int) := IntWalk.i64_in _ (by omega)
            have hn0 : ((N : Int) == 0) = false := by rw [beq_eq_false_iff_ne]; omega
            rw [hc] at *
            clear hc
            go_wp2_with fail
            refine (HGD.out b w6 (HI.out.keep HB6.out)).mono ?_
            rintro e' w7 ⟨rfl, rfl⟩
            go_wp2_with fail
            refine (HNXI.out w6 HB6.out).mono ?_
            rintro e' w7 ⟨rfl, rfl⟩
            go_wp2_with fail
            go_ret
            exact ⟨rfl, HB3.out.trans (HB6.out.mono HB3.out.size)⟩

theorem found_any {len cap : Nat} {oa : Option Addr} (f e : Int) (z : List ByteArray) (w : World) (h : StrsIn w oa len cap z) :
    Calls Try.prog 4 #[.int .i64 f, .slice oa len cap, .int .i64 e] w fun e' w' => e' = .returned (.bool true) ∧ Below w.heap.size w w' := by
  by_cases hb : sizeF (paysL z) + 4 * len < 12000 ∧ bdE e (jnL f (paysL z)) = 0
  · obtain ⟨h1, h2⟩ := hb
    have hj : jnE f (paysL z) = 0 := by
      refine Decidable.byContradiction fun hn => ?_
      unfold jnL at h2
      rw [if_neg hn] at h2
      unfold bdE at h2
      by_cases he : e < 1 ∨ 64 < e
      · rw [if_pos he] at h2; cases h2
      · rw [if_neg he] at h2; exact absurd h2 (by decide)
    have he : 1 ≤ e ∧ e ≤ 64 := by
      unfold bdE at h2
      by_cases he : e < 1 ∨ 64 < e
      · rw [if_pos he] at h2; cases h2
      · omega
    have hf := (jn_ok hj).1
    obtain ⟨N, rfl⟩ : ∃ N : Nat, e = N := ⟨e.toNat, by omega⟩
    obtain ⟨F, rfl⟩ : ∃ F : Nat, f = F := ⟨f.toNat, by omega⟩
    exact found_ok F N z w h (by omega) (by omega) h1 hj
  · exact found_bad f e z w h (fun h1 h2 => hb ⟨h1, h2⟩)

end Go.Proofs.Ytmeefecpnfclpaa
