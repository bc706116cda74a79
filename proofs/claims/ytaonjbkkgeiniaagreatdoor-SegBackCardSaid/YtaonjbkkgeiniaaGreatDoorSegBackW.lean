/- souklaw11.SegBack: its walk. (Printed by wip/gen_sback.py.) -/
import Derived.Test.YtaonjbkkgeiniaaGreatDoorSgBw
namespace Go.Proofs.YtaonjbkkgeiniaaGreatDoor
open Go.RowKit

set_option maxRecDepth 100000 in
set_option maxHeartbeats 16000000 in
theorem back_any (f : Int) (oa : Option Addr) (len cap : Nat) (z : List ByteArray) (s : ByteArray) (w : World) (hz : StrsIn w oa len cap z) (h : Laid w) :
    Calls Tryz.prog 7 #[.int .i64 f, .slice oa len cap, .string s] w fun r w' => r = .returned (.bool true) ∧ Below w.heap.size w w' := by
  have HL := Lib.hid h
  have HZ := Lib.hid hz
  clear h hz
  go_enter Tryz.func7, Tryz.ntmps7
  go_wp2_with fail
  refine (many_any _ _ _ z _ HZ.out).mono ?_
  rintro r w0 ⟨b, rfl, rfl, hsum⟩
  cases b with
  | true =>
    clear hsum
    go_wp2_with fail
    refine (awake_any _ HL.out).mono ?_
    rintro r w9 ⟨rfl, hb9⟩
    have HB9 := Lib.hid hb9
    clear hb9
    go_wp2_with fail
    go_ret
    exact ⟨rfl, HB9.out⟩
  | false =>
    replace hsum := hsum rfl
    by_cases hs : 20000 < s.size
    · have d1 : decide ((20000 : Int) < (s.size : Int)) = true := decide_eq_true (by omega)
      clear hs hsum
      go_wp2_with fail
      refine (awake_any _ HL.out).mono ?_
      rintro r w9 ⟨rfl, hb9⟩
      have HB9 := Lib.hid hb9
      clear hb9
      go_wp2_with fail
      go_ret
      exact ⟨rfl, HB9.out⟩
    have d1 : decide ((20000 : Int) < (s.size : Int)) = false := decide_eq_false (by omega)
    have HSZ := Lib.hid hs
    have HSM := Lib.hid hsum
    clear hs hsum
    go_wp2_with fail
    refine (awake_any _ HL.out).mono ?_
    rintro r w9 ⟨rfl, hb9⟩
    have HB9 := Lib.hid hb9
    clear hb9
    have HS2 := Lib.hid (scan_ways s (by have := HSZ.out; omega))
    have hj := fun W (hW : StrsIn W oa len cap z) => join_any f z W hW
    by_cases hE : jnE f (paysL z) = 0
    case neg =>
      obtain ⟨E, hE1, hE2⟩ : ∃ E : Int, ((jnE f (paysL z) : Nat) : Int) = E ∧ (E == 0) = false := ⟨_, rfl, by rw [beq_eq_false_iff_ne]; omega⟩
      rw [hE1] at hj
      generalize bs (jnL f (paysL z)) = A at *
      have HJ := Lib.hid hj
      clear hj hE hE1
      go_wp2_with fail
      refine (HJ.out _ (strs_keep HZ.out HB9.out)).mono ?_
      rintro r w1 ⟨rfl, hb⟩
      have HB1 := Lib.hid (bel_trans HB9.out hb)
      clear hb
      rcases HS2.out with ⟨E2, hE2, k⟩ | ⟨f2, n2, G2, b2, zs2, T, ⟨hn2, hzl, hzs⟩, ⟨hG1, hG2⟩, hbw, hcut, hjo, X2, hX2, k⟩
      · have hne2 : (E2 != 0) = true := by rw [bne_iff_ne]; exact hE2
        have K3 := Lib.hid k
        clear k hE2
        go_wp2_with fail
        refine (K3.out _).mono ?_
        rintro r w7 ⟨rfl, hb⟩
        have HB7 := Lib.hid (bel_trans HB1.out hb)
        clear hb
        go_wp2_with fail
        go_ret
        exact ⟨rfl, HB7.out.alloc HB7.out.size _⟩
      · have K3 := Lib.hid k
        have HX2 := Lib.hid hX2
        have HJO := Lib.hid hjo
        have HZL := Lib.hid hzl
        have HZS := Lib.hid hzs
        clear k hX2 hjo hzl hzs
        go_wp2_with fail
        refine (K3.out _).mono ?_
        rintro r w7 ⟨od, cd, rfl, hx, hb⟩
        have HB7 := Lib.hid (bel_trans HB1.out hb)
        have HXR := Lib.hid hx
        clear hb hx
        go_wp2_with fail
        obtain ⟨W7, hW7⟩ : ∃ W7, w7.alloc (.cells #[.int .i64 (f2 : Int), .slice od n2 cd, .int .i64 (G2 : Int), .bool b2] 46) = W7 := ⟨_, rfl⟩
        have hg7 : W7.heap[w7.heap.size]? = some (.cells #[.int .i64 (f2 : Int), .slice od n2 cd, .int .i64 (G2 : Int), .bool b2] 46) := by rw [← hW7]; exact heap_alloc_new _ _
        have hb7 : Below w.heap.size w W7 := by rw [← hW7]; exact HB7.out.alloc HB7.out.size _
        have hx7 := ownsRow_below HXR.out ((Below.refl w7.heap.size w7).alloc (Nat.le_refl _) (.cells #[.int .i64 (f2 : Int), .slice od n2 cd, .int .i64 (G2 : Int), .bool b2] 46))
        rw [hW7] at hx7 ⊢
        have HS7 := Lib.hid (show sbR w w7.heap.size (f2 : Int) (G2 : Int) od n2 cd b2 W7.drew from sbR_drew ⟨hb7, hg7⟩)
        have HX7 := Lib.hid (show W7.drew.ownsRow _ 60 3 (.slice od n2 cd) n2 X2 from hx7)
        clear hW7 hg7 hb7 hx7 HB7 HXR
        generalize w7.heap.size = gy at *
        go_region_held3 (fun w' => (w'.cell? ⟨gy, 0, none⟩ = some (.int .i64 (f2 : Int)) ∧ w'.cell? ⟨gy, 1, none⟩ = some (.slice od n2 cd)) ∧ sbR w gy (f2 : Int) (G2 : Int) od n2 cd b2 w')
          (first | exact sbS_of (sbR_keep (sbR_keep HS7.out hbP) hbJ) | exact sbS_of (sbR_keep HS7.out hbP) | exact sbS_of HS7.out | assumption)
          (first
            | (go_at_call 34; (with_reducible refine (payloads_is n2 od cd X2 zs2 _ _ hn2 HZL.out HZS.out HX2.out HX7.out).mono ?_); rintro e' w8 ⟨op, cp, rfl, hst, hbP⟩)
            | (go_at_call 16; (with_reducible refine (HJO.out _ op cp hst).mono ?_); rintro e' w10 ⟨rfl, hbJ⟩))
        have HSJ := Lib.hid (sbR_keep (sbR_keep HS7.out hbP) hbJ)
        clear hbP hbJ hst HS7 HX7
        obtain ⟨c0, c1, c2, c3⟩ := sbR_cells HSJ.out
        have hd2 : decide ((16 : Int) ≤ (G2 : Int)) = true := decide_eq_true (by omega)
        have hd3 : decide ((G2 : Int) ≤ (s.size : Int)) = true := decide_eq_true (by omega)
        go_wp2_with fail
        go_ret
        exact ⟨rfl, HSJ.out.1⟩
    case pos =>
      obtain ⟨j0, j1, j2, j3, j5⟩ := jn_ok hE
      obtain ⟨g, rfl⟩ : ∃ g : Nat, f = g := ⟨f.toNat, by omega⟩
      have ej : jnL (g : Int) (paysL z) = hdrL g ++ joinF g (paysL z) := by unfold jnL; rw [if_pos hE, Int.toNat_natCast]
      rw [hE] at hj
      obtain ⟨A, hA⟩ : ∃ A, bs (jnL (g : Int) (paysL z)) = A := ⟨_, rfl⟩
      rw [hA] at hj
      have hAd : A.data.toList = hdrL g ++ joinF g (paysL z) := by rw [← hA, bs_data, ej]
      have hAs : 16 + sizeF (paysL z) = A.size := by rw [← hA, size_bs, ej, List.length_append, hdr_len, join_len]
      have hsz : A.size ≤ 1000000 := by have := size_sum z; have := HSM.out; omega
      have hl2 : len ≤ 20000 := by have := sumZ_len z; have := HSM.out; have := HZ.out.1; omega
      have hsc := scanTo_of (s := A) (f := g) (ls := paysL z) (by rw [hAd]; exact seg_whole g (by rw [pays_len] at j1; omega) _ j5) j5 hsz
      rw [pays_len, HZ.out.1, hAs, decide_eq_true rfl, bs_pays] at hsc
      obtain ⟨X, hX, k⟩ := hsc
      have HJ := Lib.hid (show ∀ W, StrsIn W oa len cap z → Calls Tryz.prog 16 #[.int .i64 (g : Int), .slice oa len cap] W fun e w' => e = .returned (.tuple #[.string A, .int .i64 0]) ∧ Below W.heap.size W w' from hj)
      have K1 := Lib.hid k
      have HX := Lib.hid hX
      have hgl : g ≤ 1048576 := by omega
      have e1 : IntKind.i64.wrap ((g : Int) + (len : Int)) = (g : Int) + (len : Int) := IntWalk.i64_in _ (by omega)
      clear j0 j1 j2 j3 j5 ej hj hA hAd hAs hsz k hX hE
      go_wp2_with fail
      refine (HJ.out _ (strs_keep HZ.out HB9.out)).mono ?_
      rintro r w1 ⟨rfl, hb⟩
      have HB1 := Lib.hid (bel_trans HB9.out hb)
      clear hb
      go_wp2_with fail
      refine (K1.out _).mono ?_
      rintro r w2 ⟨ob, cb, rfl, hx, hb⟩
      have HB2 := Lib.hid (bel_trans HB1.out hb)
      have HX1 := Lib.hid hx
      clear hb hx
      go_wp2_with fail
      obtain ⟨W2, hW2⟩ : ∃ W2, w2.alloc (.cells #[.int .i64 (g : Int), .slice ob len cb, .int .i64 (A.size : Int), .bool true] 46) = W2 := ⟨_, rfl⟩
      have hg2 : W2.heap[w2.heap.size]? = some (.cells #[.int .i64 (g : Int), .slice ob len cb, .int .i64 (A.size : Int), .bool true] 46) := by rw [← hW2]; exact heap_alloc_new _ _
      have hb2 : Below w.heap.size w W2 := by rw [← hW2]; exact HB2.out.alloc HB2.out.size _
      have hx2 := ownsRow_below HX1.out ((Below.refl w2.heap.size w2).alloc (Nat.le_refl _) (.cells #[.int .i64 (g : Int), .slice ob len cb, .int .i64 (A.size : Int), .bool true] 46))
      rw [hW2] at hx2 ⊢
      have HS2b := Lib.hid (show sbR w w2.heap.size (g : Int) (A.size : Int) ob len cb true W2 from ⟨hb2, hg2⟩)
      have HX2 := Lib.hid hx2
      clear hW2 hg2 hb2 hx2 HX1 HB2
      generalize w2.heap.size = gx at *
      refine (next_is (g : Int) ob len cb _ true _ (by omega) (by omega)).mono ?_
      rintro r w3 ⟨rfl, hbN⟩
      obtain ⟨c0, c1, c2, c3⟩ := sbR_cells (sbR_keep HS2b.out hbN)
      have HB3 := Lib.hid (sbR_keep HS2b.out hbN).1
      have HX3 := Lib.hid (ownsRow_below HX2.out hbN)
      clear hbN HX2 HS2b
      go_wp2_with fail
      refine (payloads_any len ob cb X z _ _ (by omega) HZ.out.1 HX.out HX3.out).mono ?_
      rintro r w4 ⟨v, rfl, ho, hb⟩
      obtain ⟨op, cp, rfl⟩ := row_shape ho
      have HB4 := Lib.hid (bel_trans HB3.out hb)
      have HO := Lib.hid ho
      clear hb ho c0 c1 c2 c3
      go_wp2_with fail
      refine (texts_any len op oa cp cap z w _ _ HO.out HB3.out.size HZ.out HB4.out).mono ?_
      rintro r w5 ⟨rfl, hb, _⟩
      have HB5 := Lib.hid hb
      clear hb HO HB4 HB3 HX3
      rcases HS2.out with ⟨E2, hE2, k⟩ | ⟨f2, n2, G2, b2, zs2, T, ⟨hn2, hzl, hzs⟩, ⟨hG1, hG2⟩, hbw, hcut, hjo, X2, hX2, k⟩
      · have hne2 : (E2 != 0) = true := by rw [bne_iff_ne]; exact hE2
        have K3 := Lib.hid k
        clear k hE2
        go_wp2_with fail
        refine (K3.out _).mono ?_
        rintro r w7 ⟨rfl, hb⟩
        have HB7 := Lib.hid (bel_trans HB5.out hb)
        clear hb
        go_wp2_with fail
        go_ret
        exact ⟨rfl, HB7.out.alloc HB7.out.size _⟩
      · have K3 := Lib.hid k
        have HX2 := Lib.hid hX2
        have HJO := Lib.hid hjo
        have HZL := Lib.hid hzl
        have HZS := Lib.hid hzs
        clear k hX2 hjo hzl hzs
        go_wp2_with fail
        refine (K3.out _).mono ?_
        rintro r w7 ⟨od, cd, rfl, hx, hb⟩
        have HB7 := Lib.hid (bel_trans HB5.out hb)
        have HXR := Lib.hid hx
        clear hb hx
        go_wp2_with fail
        obtain ⟨W7, hW7⟩ : ∃ W7, w7.alloc (.cells #[.int .i64 (f2 : Int), .slice od n2 cd, .int .i64 (G2 : Int), .bool b2] 46) = W7 := ⟨_, rfl⟩
        have hg7 : W7.heap[w7.heap.size]? = some (.cells #[.int .i64 (f2 : Int), .slice od n2 cd, .int .i64 (G2 : Int), .bool b2] 46) := by rw [← hW7]; exact heap_alloc_new _ _
        have hb7 : Below w.heap.size w W7 := by rw [← hW7]; exact HB7.out.alloc HB7.out.size _
        have hx7 := ownsRow_below HXR.out ((Below.refl w7.heap.size w7).alloc (Nat.le_refl _) (.cells #[.int .i64 (f2 : Int), .slice od n2 cd, .int .i64 (G2 : Int), .bool b2] 46))
        rw [hW7] at hx7 ⊢
        have HS7 := Lib.hid (show sbR w w7.heap.size (f2 : Int) (G2 : Int) od n2 cd b2 W7.drew from sbR_drew ⟨hb7, hg7⟩)
        have HX7 := Lib.hid (show W7.drew.ownsRow _ 60 3 (.slice od n2 cd) n2 X2 from hx7)
        clear hW7 hg7 hb7 hx7 HB7 HXR
        generalize w7.heap.size = gy at *
        go_region_held3 (fun w' => (w'.cell? ⟨gy, 0, none⟩ = some (.int .i64 (f2 : Int)) ∧ w'.cell? ⟨gy, 1, none⟩ = some (.slice od n2 cd)) ∧ sbR w gy (f2 : Int) (G2 : Int) od n2 cd b2 w')
          (first | exact sbS_of (sbR_keep (sbR_keep HS7.out hbP) hbJ) | exact sbS_of (sbR_keep HS7.out hbP) | exact sbS_of HS7.out | assumption)
          (first
            | (go_at_call 34; (with_reducible refine (payloads_is n2 od cd X2 zs2 _ _ hn2 HZL.out HZS.out HX2.out HX7.out).mono ?_); rintro e' w8 ⟨op, cp, rfl, hst, hbP⟩)
            | (go_at_call 16; (with_reducible refine (HJO.out _ op cp hst).mono ?_); rintro e' w10 ⟨rfl, hbJ⟩))
        have HSJ := Lib.hid (sbR_keep (sbR_keep HS7.out hbP) hbJ)
        clear hbP hbJ hst HS7 HX7
        obtain ⟨c0, c1, c2, c3⟩ := sbR_cells HSJ.out
        have hd2 : decide ((16 : Int) ≤ (G2 : Int)) = true := decide_eq_true (by omega)
        have hd3 : decide ((G2 : Int) ≤ (s.size : Int)) = true := decide_eq_true (by omega)
        go_wp2_with fail
        go_ret
        exact ⟨rfl, HSJ.out.1⟩
end Go.Proofs.YtaonjbkkgeiniaaGreatDoor
