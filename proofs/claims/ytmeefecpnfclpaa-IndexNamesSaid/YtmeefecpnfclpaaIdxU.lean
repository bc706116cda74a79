/- souklaw12.IndexAdds. -/
import Derived.Test.YtmeefecpnfclpaaIdxF
import Derived.Test.YtmeefecpnfclpaaIdxD
import Derived.WalkSmall
namespace Go.Proofs.Ytmeefecpnfclpaa
open Go.RowKit Go.Shelf
attribute [local go_sem] Oper.semAt_some

theorem mod_lt (a : Int) (n : Int) (h0 : 0 < n) (hn : n ≤ 1000000000) : ∃ f : Nat, wrap64 ((IntKind.u64.wrap a).tmod n) = f ∧ (f : Int) < n := by
  have h1 : 0 ≤ IntKind.u64.wrap a := by rw [IntKind.wrap_u64]; omega
  have h2 : (IntKind.u64.wrap a).tmod n = IntKind.u64.wrap a % n := Int.tmod_eq_emod_of_nonneg h1
  have h3 : 0 ≤ IntKind.u64.wrap a % n := Int.emod_nonneg _ (by omega)
  have h4 : IntKind.u64.wrap a % n < n := Int.emod_lt_of_pos _ (by omega)
  rw [h2]
  generalize IntKind.u64.wrap a % n = x at *
  refine ⟨x.toNat, ?_, by omega⟩
  unfold wrap64
  omega
theorem strs_take {w : World} {oa : Option Addr} {len cap : Nat} {z : List ByteArray} (h : StrsIn w oa len cap z) (k : Nat) (hk : k ≤ len) : StrsIn w oa k cap (z.take k) := by
  obtain ⟨h1, h2, h3, h4, h5⟩ := h
  refine ⟨by rw [List.length_take]; omega, by omega, h3, fun s hs => h4 s (List.mem_of_mem_take hs), ?_⟩
  rcases h5 with h0 | ⟨b, off, e, hb, hc⟩
  · exact .inl (by omega)
  · refine .inr ⟨b, off, e, hb, fun j hj => ?_⟩
    rw [hc j (by omega), List.getD_eq_getElem?_getD, List.getD_eq_getElem?_getD, List.getElem?_take, if_pos hj]
theorem pays_take (z : List ByteArray) (k : Nat) : paysL (z.take k) = (paysL z).take k := by unfold paysL; rw [List.map_take]
theorem jn_size (f : Int) (z : List ByteArray) (n : Nat) (hn : 16 + sizeF (paysL z) ≤ n) : (bs (jnL f (paysL z))).size ≤ n := by
  rw [size_bs]
  by_cases hj : jnE f (paysL z) = 0
  · rw [(seg_scan hj).2.1]; omega
  · unfold jnL; rw [if_neg hj]; exact Nat.zero_le _

/-- what is known where all four are well -/
theorem adds_main (f e : Int) (z : List ByteArray) (K : Nat) {len : Nat} (hzl : z.length = len) (hlt : sizeF (paysL z) + 4 * len < 12000)
    (h1 : jnE f (paysL (z.take K)) = 0) (h2 : jnE f (paysL z) = 0) (h4 : bdE e (jnL f (paysL z)) = 0) :
    ∃ F N : Nat, f = F ∧ e = N ∧ 1 ≤ N ∧ N ≤ 64 ∧ F + len ≤ 1048576 ∧ (∀ i, i < len → 1 ≤ (z.getD i ByteArray.empty).size ∧ (z.getD i ByteArray.empty).size ≤ 4096) ∧
      ixF (jnL f (paysL (z.take K))) = F ∧ ixF (jnL f (paysL z)) = F ∧ ixP (jnL f (paysL (z.take K))) = placesF 16 ((paysL z).take K) ∧ ixP (jnL f (paysL z)) = placesF 16 ((paysL z).take len) ∧
      ixG (jnL f (paysL (z.take K))) = 16 + sizeF ((paysL z).take K) ∧ ixG (jnL f (paysL z)) = 16 + sizeF ((paysL z).take len) ∧
      (∀ i, i < len → ∀ w, ∃ nx : Int, Calls Try.prog 19 #[.string (bs (jnL f (paysL z))), .int .i64 ((16 + sizeF ((paysL z).take i) : Nat) : Int)] w
        fun e w' => e = .returned (.tuple #[.agg #[.int .i64 ((F + i : Nat) : Int), .string (z.getD i ByteArray.empty), .int .i64 ((16 + sizeF ((paysL z).take i) : Nat) : Int)], .int .i64 nx, .int .i64 0]) ∧ Below w.heap.size w w') := by
  obtain ⟨j0, j1, j2, j3, j4⟩ := jn_ok h2
  rw [pays_len] at j1
  have he : 1 ≤ e ∧ e ≤ 64 := by
    unfold bdE at h4
    by_cases he : e < 1 ∨ 64 < e
    · rw [if_pos he] at h4; cases h4
    · omega
  obtain ⟨N, rfl⟩ : ∃ N : Nat, e = N := ⟨e.toNat, by omega⟩
  obtain ⟨F, rfl⟩ : ∃ F : Nat, f = F := ⟨f.toNat, by omega⟩
  obtain ⟨_, _, _, q4, q5, q6⟩ := seg_scan h2
  obtain ⟨_, _, _, p4, p5, p6⟩ := seg_scan h1
  have hall : (paysL z).take len = paysL z := List.take_of_length_le (by rw [pays_len]; omega)
  rw [hall, ← pays_take]
  have hq : ((hdF (jnL (F : Int) (paysL z)) : Nat) : Int) = (F : Int) := q4
  have hp : ((hdF (jnL (F : Int) (paysL (z.take K))) : Nat) : Int) = (F : Int) := p4
  refine ⟨F, N, rfl, rfl, by omega, by omega, by omega, ?_, by unfold ixF; omega, by unfold ixF; omega, ?_, ?_, ?_, ?_, ?_⟩
  · intro i hi
    have hi' : i < (paysL z).length := by rw [pays_len]; omega
    have := j2 _ (List.getElem_mem hi')
    rw [pays_get z i (by omega)] at this
    exact this
  · unfold ixP; rw [hp]; exact p5
  · unfold ixP; rw [hq]; exact q5
  · unfold ixG; rw [hp]; exact p6
  · unfold ixG; rw [hq]; exact q6
  · intro i hi w
    exact read_join F z i (by omega) h2 (jn_size _ _ _ (by omega)) w

theorem keepX_below {n b : Nat} {w W W' : World} (h : Below n w W) (hn : n ≤ b) (hn2 : n ≤ w.heap.size) (hk : KeepX (fun i => i = b) W W') : Below n w W' :=
  ⟨hk.os.trans h.os, hk.tape.trans h.tape, hk.output.trans h.output, Nat.le_trans h.size hk.size, fun i hi => (hk.block i (by have := h.size; omega) (by omega)).trans (h.block i hi)⟩
theorem ixr_keepX {W W' : World} {b c e f g e' f' g' : Nat} {ps qs : List Nat} (h : Ixr W c e f ps g) (h1 : Ixr W b e' f' qs g') (hne : c ≠ b) (hk : KeepX (fun i => i = b) W W') : Ixr W' c e f ps g := by
  obtain ⟨oa, cap, k1, k2, k3⟩ := h
  obtain ⟨_, _, q1, _⟩ := h1
  exact ⟨oa, cap, (hk.block c (Array.getElem?_eq_some_iff.1 k1).1 hne).trans k1, row_keepX k2 q1 (by decide) hk, k3⟩
/-- between two rounds -/
def adI (F N b1 b2 len : Nat) (z : List ByteArray) (w : World) (i : Nat) (W : World) : Prop :=
  Ixr W b1 N F (placesF 16 ((paysL z).take i)) (16 + sizeF ((paysL z).take i)) ∧ Ixr W b2 N F (placesF 16 ((paysL z).take len)) (16 + sizeF ((paysL z).take len)) ∧ Below w.heap.size w W
theorem adI_keep {F N b1 b2 len i : Nat} {z : List ByteArray} {w W W' : World} (h : adI F N b1 b2 len z w i W) (hb : Below W.heap.size W W') : adI F N b1 b2 len z w i W' :=
  ⟨h.1.keep hb, h.2.1.keep hb, h.2.2.trans (hb.mono h.2.2.size)⟩
theorem adI_add {F N b1 b2 len i : Nat} {z : List ByteArray} {w W : World} (h : adI F N b1 b2 len z w i W) (hz : z.length = len) (hi : i < len) (hN : 0 < N) (hb : w.heap.size ≤ b1) (hne : b2 ≠ b1) (hF : F + len ≤ 1048576)
    (hp : 1 ≤ (z.getD i ByteArray.empty).size ∧ (z.getD i ByteArray.empty).size ≤ 4096) (hlt : sizeF (paysL z) < 12000) :
    Calls Try.prog 24 #[.pointer (some ⟨b1, 0, none⟩), .int .i64 (z.getD i ByteArray.empty).size] W fun e' w' => e' = .returned (.tuple #[.int .i64 ((16 + sizeF ((paysL z).take i) : Nat) : Int), .int .i64 0]) ∧ adI F N b1 b2 len z w (i + 1) w' := by
  obtain ⟨h1, h2, h3⟩ := h
  have hil : i < (paysL z).length := by rw [pays_len]; omega
  have hle := size_take_le (paysL z) i
  have hpl : (placesF 16 ((paysL z).take i)).length = i := by rw [places_len, List.length_take]; omega
  have hE : addE (F + (placesF 16 ((paysL z).take i)).length) ((z.getD i ByteArray.empty).size : Int) = 0 := by
    unfold addE lenOk
    rw [hpl, if_neg (by omega), if_neg (by omega)]
  refine (add_any b1 N F (16 + sizeF ((paysL z).take i)) (placesF 16 ((paysL z).take i)) (z.getD i ByteArray.empty).size W hN (by omega) h1).mono ?_
  rintro e' w' (⟨_, rfl, k1, k2⟩ | ⟨k, _⟩)
  · refine ⟨rfl, ?_, ixr_keepX h2 h1 hne k2, keepX_below h3 hb (Nat.le_refl _) k2⟩
    rw [places_snoc _ _ _ hil, size_take_succ _ _ hil, pays_get z i (by omega)]
    rw [Int.toNat_natCast] at k1
    rw [show 16 + (sizeF ((paysL z).take i) + (16 + (z.getD i ByteArray.empty).data.toList.length)) = 16 + sizeF ((paysL z).take i) + 16 + (z.getD i ByteArray.empty).size from by show _ = 16 + sizeF ((paysL z).take i) + 16 + (z.getD i ByteArray.empty).data.toList.length; omega]
    exact k1
  · exact absurd hE k

set_option maxRecDepth 100000 in
set_option maxHeartbeats 8000000 in
theorem adds_walk {len cap : Nat} {oa : Option Addr} (f fr e : Int) (z : List ByteArray) (w : World) (h : StrsIn w oa len cap z) :
    Calls Try.prog 6 #[.int .i64 f, .slice oa len cap, .int .i64 fr, .int .i64 e] w fun e' w' => e' = .returned (.bool true) ∧ Below w.heap.size w w' := by
  have HZ := Lib.hid h
  clear h
  go_enter Try.func6, Try.ntmps6
  go_wp2_with fail
  refine (works12 w).mono ?_
  rintro e' w1 ⟨rfl, hb1⟩
  have HB1 := Lib.hid hb1
  have HZ1 := Lib.hid (strs_keep HZ.out hb1)
  clear hb1
  go_wp2_with fail
  refine (heavy_any z w1 HZ1.out).mono ?_
  rintro e' w2 ⟨b, rfl, hv, rfl⟩
  have HV := Lib.hid hv
  clear hv
  cases b with
  | true =>
    go_wp2_with fail
    refine (works12 w1).mono ?_
    rintro e' w2 ⟨rfl, hb2⟩
    have HB2 := Lib.hid (HB1.out.trans (hb2.mono HB1.out.size))
    clear hb2
    go_wp2_with fail
    go_ret
    exact ⟨rfl, HB2.out⟩
  | false =>
    have hlt := HV.out rfl
    obtain ⟨K, hK, hKl⟩ := mod_lt fr ((len : Int) + 1) (by omega) (by omega)
    have hK0 : (0 : Int) ≤ (K : Int) := by omega
    have hK1 : K ≤ len := by omega
    have hK2 : (K : Int) ≤ (cap : Int) := by have := HZ.out.2.1; omega
    have hu : IntKind.u64.wrap ((len : Int) + 1) = (len : Int) + 1 := by rw [IntKind.wrap_u64]; omega
    have hwl : IntKind.i64.wrap ((len : Int) + 1) = (len : Int) + 1 := IntWalk.i64_in _ (by omega)
    clear HV
    have hsz1 := jn_size f (z.take K) 1000000 (by rw [pays_take]; have := size_take_le (paysL z) K; omega)
    have hsz2 := jn_size f z 1000000 (by omega)
    have hj1 := fun w' (hw' : StrsIn w' oa len cap z) => join_any f (z.take K) w' (strs_take hw' K hK1)
    have hj2 := fun w' (hw' : StrsIn w' oa len cap z) => join_any f z w' hw'
    have hb1 := fun w' => build_any (bs (jnL f (paysL (z.take K)))) e w' hsz1
    have hb2 := fun w' => build_any (bs (jnL f (paysL z))) e w' hsz2
    rw [show (bs (jnL f (paysL (z.take K)))).data.toList = jnL f (paysL (z.take K)) from bs_data _] at hb1
    rw [show (bs (jnL f (paysL z))).data.toList = jnL f (paysL z) from bs_data _] at hb2
    have hmain := adds_main f e z K HZ.out.1 hlt
    obtain ⟨J1, hJ1⟩ : ∃ J, jnE f (paysL (z.take K)) = J := ⟨_, rfl⟩
    obtain ⟨J2, hJ2⟩ : ∃ J, jnE f (paysL z) = J := ⟨_, rfl⟩
    obtain ⟨E1, hE1⟩ : ∃ J, bdE e (jnL f (paysL (z.take K))) = J := ⟨_, rfl⟩
    obtain ⟨E2, hE2⟩ : ∃ J, bdE e (jnL f (paysL z)) = J := ⟨_, rfl⟩
    rw [hJ1] at hj1 hmain
    rw [hJ2] at hj2 hmain
    rw [hE1] at hb1
    rw [hE2] at hb2 hmain
    generalize bs (jnL f (paysL (z.take K))) = S1 at *
    generalize bs (jnL f (paysL z)) = S2 at *
    have C1 := Lib.hid hj1
    have C2 := Lib.hid hj2
    have C3 := Lib.hid hb1
    have C4 := Lib.hid hb2
    have HM := Lib.hid hmain
    clear hj1 hj2 hb1 hb2 hmain hJ1 hJ2 hE1 hE2 hsz1 hsz2
    go_wp2_with fail
    rw [hK]
    refine (C1.out w1 HZ1.out).mono ?_
    rintro e' w2 ⟨rfl, hbw2⟩
    have HB2 := Lib.hid (HB1.out.trans (hbw2.mono HB1.out.size))
    have HZ2 := Lib.hid (strs_keep HZ1.out hbw2)
    clear hbw2
    go_wp2_with fail
    refine (C2.out w2 HZ2.out).mono ?_
    rintro e' w3 ⟨rfl, hbw3⟩
    have HB3 := Lib.hid (HB2.out.trans (hbw3.mono HB2.out.size))
    have HZ3 := Lib.hid (strs_keep HZ2.out hbw3)
    clear hbw3
    go_wp2_with fail
    by_cases hall : J1 = 0 ∧ J2 = 0 ∧ E1 = 0 ∧ E2 = 0
    · obtain ⟨rfl, rfl, rfl, rfl⟩ := hall
      refine (C3.out w3).mono ?_
      rintro e' w4 (⟨h, _⟩ | ⟨_, b1, rfl, hbb1, hix1, hbw4⟩)
      · exact absurd rfl h
      have HB4 := Lib.hid (HB3.out.trans (hbw4.mono HB3.out.size))
      have HZ4 := Lib.hid (strs_keep HZ3.out hbw4)
      clear hbw4
      go_wp2_with fail
      refine (C4.out w4).mono ?_
      rintro e' w5 (⟨h, _⟩ | ⟨_, b2, rfl, hbb2, hix2, hbw5⟩)
      · exact absurd rfl h
      have HB5 := Lib.hid (HB4.out.trans (hbw5.mono HB4.out.size))
      have HZ5 := Lib.hid (strs_keep HZ4.out hbw5)
      have HI1 := Lib.hid (hix1.keep hbw5)
      have HI2 := Lib.hid hix2
      have hlt1 := hix1.lt
      obtain ⟨F, N, rfl, rfl, hN1, hN2, hFl, hpz, m1, m2, m3, m4, m5, m6, hrd⟩ := HM.out (by first | trivial | rfl) (by first | trivial | rfl) (by first | trivial | rfl)
      have hi1 := HI1.out
      have hi2 := HI2.out
      rw [m1, m3, m5, Int.toNat_natCast] at hi1
      rw [m2, m4, m6, Int.toNat_natCast] at hi2
      have HA := Lib.hid (show adI F N b1 b2 len z w K w5 from ⟨hi1, hi2, HB5.out⟩)
      have HRD := Lib.hid hrd
      have HPZ := Lib.hid hpz
      have hne : b2 ≠ b1 := by omega
      have hwb : w.heap.size ≤ b1 := Nat.le_trans HB3.out.size hbb1
      clear hbw5 hix1 hix2 C1 C2 C3 C4 HM m1 m2 m3 m4 m5 m6 hrd hpz hi1 hi2 HI1 HI2
      go_wp2_with fail
      go_loopw [18] (fun iv W => ∃ i : Nat, i ≤ len ∧ iv = .int .i64 i ∧ adI F N b1 b2 len z w i W) (fun iv _ => len - (intOf iv).toNat)
      case atStart => exact ⟨K, hK1, rfl, HA.out⟩
      case round =>
        obtain ⟨i, hi, rfl, hai⟩ := hrel
        have HAI := Lib.hid hai
        clear hai
        by_cases hin : i < len
        · have hs := strs_keep HZ.out HAI.out.2.2
          obtain ⟨_, _, _, _, hcl⟩ := hs
          rcases hcl with h0 | ⟨bb, off, rfl, hbbw, hc⟩
          · omega
          have hci := hc i hin
          have had := adI_add HAI.out HZ.out.1 hin (by omega) hwb hne hFl (HPZ.out i hin) (by omega)
          have hrd := HRD.out i hin
          obtain ⟨y, hy⟩ : ∃ y, z.getD i ByteArray.empty = y := ⟨_, rfl⟩
          obtain ⟨A, hA⟩ : ∃ A, 16 + sizeF ((paysL z).take i) = A := ⟨_, rfl⟩
          obtain ⟨Q, hQ⟩ : ∃ Q, F + i = Q := ⟨_, rfl⟩
          rw [hy] at hci had hrd
          rw [hA] at had hrd
          rw [hQ] at hrd
          have HAD := Lib.hid had
          have HRI := Lib.hid hrd
          have HSI := Lib.hid (fun (W' : World) (hw' : Below w.heap.size w W') => (show W'.cell? ⟨bb, off + i, none⟩ = some (.string y) by
            obtain ⟨_, _, _, _, hcl⟩ := strs_keep HZ.out hw'
            rcases hcl with h0 | ⟨bb', off', e, _, hc'⟩
            · omega
            · cases e
              rw [hc' i hin, hy]))
          clear hc had hrd hy hA hQ
          go_wp2_with fail
          refine HAD.out.mono ?_
          rintro e' w6 ⟨rfl, hai6⟩
          have HA6 := Lib.hid hai6
          clear hai6
          obtain ⟨nx, hrd⟩ := HRI.out w6
          have HR6 := Lib.hid hrd
          clear hrd
          go_wp2_with fail
          refine HR6.out.mono ?_
          rintro e' w7 ⟨rfl, hb7⟩
          have HA7 := Lib.hid (adI_keep (adI_keep HA6.out hb7) ((Below.refl _ _).alloc (Nat.le_refl _) (.cells #[.int .i64 Q, .string y, .int .i64 A] 40)))
          have s1 := HSI.out _ HA7.out.2.2
          have g0 : (w7.alloc (.cells #[.int .i64 Q, .string y, .int .i64 A] 40)).cell? ⟨w7.heap.size, 1, none⟩ = some (.string y) := by rw [cell_of_row _ _ _ _ _ _ (heap_alloc_new _ _)]; rfl
          have hib : i < 1048576 := by omega
          clear hb7
          go_wp2_with fail
          go_quiet (fail)
          go_wp2_with fail
          refine ⟨⟨i + 1, by omega, rfl, HA7.out.1, HA7.out.2.1, ⟨HA7.out.2.2.os, HA7.out.2.2.tape, HA7.out.2.2.output, HA7.out.2.2.size, HA7.out.2.2.block⟩⟩, ?_⟩
          simp [intOf]; omega
        · obtain rfl : i = len := by omega
          have hpl : (placesF 16 ((paysL z).take i)).length = i := by rw [places_len, List.length_take, pays_len, HZ.out.1, Nat.min_self]
          have hcl : cntM N i ≤ i := cnt_le N i (by omega)
          obtain ⟨k1, k2, k3⟩ := HAI.out
          generalize placesF 16 ((paysL z).take i) = ps at *
          generalize 16 + sizeF ((paysL z).take i) = G at *
          have HI1 := Lib.hid k1
          have HI2 := Lib.hid k2
          have HB6 := Lib.hid k3
          have hm1 := fun b W hW => marks_any b N F G ps W (by omega) (by omega) hW
          have hnx := fun b W hW => ixNext b N F G ps W hW
          rw [hpl] at hm1 hnx
          obtain ⟨c, hc⟩ : ∃ c, cntM N i = c := ⟨_, rfl⟩
          rw [hc] at hm1 hcl
          have HM1 := Lib.hid hm1
          have HNX := Lib.hid hnx
          have hcb : c ≤ 1048576 := by omega
          have HML := Lib.hid (show (marksL N F ps).length = c by rw [marks_len, hpl, hc])
          clear k1 k2 k3 HAI HA HRD HPZ hm1 hnx hc
          go_wp2_with fail
          refine (HM1.out b1 wr HI1.out).mono ?_
          rintro e' w6 ⟨oa1, cap1, rfl, hr1, _, hb6⟩
          have HR1 := Lib.hid hr1
          have HI26 := Lib.hid (HI2.out.keep hb6)
          have HI16 := Lib.hid (HI1.out.keep hb6)
          have HB7 := Lib.hid (HB6.out.trans (hb6.mono HB6.out.size))
          clear hr1 hb6
          go_wp2_with fail
          refine (HM1.out b2 w6 HI26.out).mono ?_
          rintro e' w7 ⟨oa2, cap2, rfl, hr2, _, hb7⟩
          have HR1' := Lib.hid (ownsRow_below HR1.out hb7)
          have HR2 := Lib.hid hr2
          have HI27 := Lib.hid (HI26.out.keep hb7)
          have HI17 := Lib.hid (HI16.out.keep hb7)
          have HB8 := Lib.hid (HB7.out.trans (hb7.mono HB7.out.size))
          clear hr2 hb7
          go_wp2_with fail
          refine (HNX.out b1 w7 HI17.out).mono ?_
          rintro e' w8 ⟨rfl, rfl⟩
          go_wp2_with fail
          refine (HNX.out b2 w7 HI27.out).mono ?_
          rintro e' w8 ⟨rfl, rfl⟩
          go_wp2_with fail
          refine (ixGood b1 N F G ps w7 HI17.out).mono ?_
          rintro e' w8 ⟨rfl, rfl⟩
          go_wp2_with fail
          refine (ixGood b2 N F G ps w7 HI27.out).mono ?_
          rintro e' w8 ⟨rfl, rfl⟩
          go_wp2_with fail
          refine (ixFirst b1 N F G ps w7 HI17.out).mono ?_
          rintro e' w8 ⟨rfl, rfl⟩
          go_wp2_with fail
          refine (ixFirst b2 N F G ps w7 HI27.out).mono ?_
          rintro e' w8 ⟨rfl, rfl⟩
          go_wp2_with fail
          go_loopw [26] (fun iv W => ∃ j : Nat, j ≤ c ∧ iv = .int .i64 j ∧ Below w7.heap.size w7 W) (fun iv _ => c - (intOf iv).toNat)
          case atStart => exact ⟨0, Nat.zero_le _, rfl, Below.refl _ _⟩
          case round =>
            obtain ⟨j, hj, rfl, hbl⟩ := hrel
            have HBJ := Lib.hid hbl
            clear hbl
            by_cases hjc : j < c
            · obtain ⟨g1, rfl, hg1, _, hc1⟩ := mrow_cells HR1'.out (by omega)
              obtain ⟨g2, rfl, hg2, _, hc2⟩ := mrow_cells HR2.out (by omega)
              obtain ⟨m, hm⟩ : ∃ m, (marksL N F ps)[j]? = some m := ⟨_, List.getElem?_eq_getElem (by rw [HML.out]; omega)⟩
              obtain ⟨r1, r2⟩ := mkRow_get _ _ _ hm
              have p0 := (HBJ.out.cell (p := ⟨g1, j * 2, none⟩) hg1).trans (hc1 _ _ r1)
              have p1 := (HBJ.out.cell (p := ⟨g1, j * 2 + 1, none⟩) hg1).trans (hc1 _ _ r2)
              have q0 := (HBJ.out.cell (p := ⟨g2, j * 2, none⟩) hg2).trans (hc2 _ _ r1)
              have q1 := (HBJ.out.cell (p := ⟨g2, j * 2 + 1, none⟩) hg2).trans (hc2 _ _ r2)
              clear hc1 hc2 r1 r2 hm
              go_wp2_with fail
              go_quiet (fail)
              go_wp2_with fail
              refine ⟨⟨j + 1, by omega, rfl, ⟨HBJ.out.os, HBJ.out.tape, HBJ.out.output, HBJ.out.size, HBJ.out.block⟩⟩, ?_⟩
              simp [intOf]; omega
            · obtain rfl : j = c := by omega
              go_wp2_with fail
              go_ret
              exact ⟨rfl, HB8.out.trans (HBJ.out.mono HB8.out.size)⟩
    · have hx : ∀ J : Nat, ∃ x, ((J : Int) != 0) = x ∧ (x = false → J = 0) := fun J => ⟨_, rfl, fun h => by
        have := bne_eq_false_iff_eq.1 h; omega⟩
      obtain ⟨x1, d1, k1⟩ := hx J1
      obtain ⟨x2, d2, k2⟩ := hx J2
      refine (C3.out w3).mono ?_
      rintro e' w4 (⟨hn1, rfl, hbw4⟩ | ⟨hn1, b1, rfl, hbb1, hix1, hbw4⟩)
      all_goals
        have HB4 := Lib.hid (HB3.out.trans (hbw4.mono HB3.out.size))
        clear hbw4
        go_wp2_with fail
        refine (C4.out w4).mono ?_
        rintro e' w5 (⟨hn2, rfl, hbw5⟩ | ⟨hn2, b2, rfl, hbb2, hix2, hbw5⟩)
        all_goals
          have HB5 := Lib.hid (HB4.out.trans (hbw5.mono HB4.out.size))
          clear hbw5
          obtain ⟨x3, d3, k3⟩ := hx E1
          obtain ⟨x4, d4, k4⟩ := hx E2
          try rw [hn1] at d3
          try rw [hn2] at d4
          have hsome : x1 = true ∨ x2 = true ∨ x3 = true ∨ x4 = true := by
            refine Decidable.byContradiction fun hn => hall ⟨k1 ?_, k2 ?_, k3 ?_, k4 ?_⟩ <;> (simp at hn; simp [hn])
          have HSM := Lib.hid hsome
          have HH := Lib.hid hall
          have K3 := Lib.hid k3
          have K4 := Lib.hid k4
          clear hsome hall k1 k2 k3 k4 hx
          cases x1
          all_goals try cases x2
          all_goals try cases x3
          all_goals try cases x4
          all_goals
            first
            | (exact absurd HSM.out (by decide))
            | (exact absurd d3 (by decide))
            | (exact absurd d4 (by decide))
            | (exact absurd (K3.out rfl) hn1)
            | (exact absurd (K4.out rfl) hn2)
            | (go_wp2_with fail; go_ret; exact ⟨rfl, HB5.out⟩)

end Go.Proofs.Ytmeefecpnfclpaa
