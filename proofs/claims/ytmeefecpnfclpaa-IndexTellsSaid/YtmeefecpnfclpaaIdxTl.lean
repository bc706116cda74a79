/- souklaw12.IndexTells. -/
import Derived.Test.YtmeefecpnfclpaaIdxLk
import Derived.Test.YtmeefecpnfclpaaIdxU
import Derived.Test.YtmeefecpnfclpaaIdxO
namespace Go.Proofs.Ytmeefecpnfclpaa
open Go.RowKit Go.Shelf
attribute [local go_sem] Oper.semAt_some

theorem row_keepR {B : Nat} {W W' : World} {b n k : Nat} {v : Value} {xs : List Value} {t : TypeId} (h : W.ownsRow b t k v n xs) (h1 : t ≠ 3) (h2 : t ≠ 72) (hk : KeepR B W W') : W'.ownsRow b t k v n xs :=
  ⟨h.1, h.2.imp id (fun ⟨g, c, cur, e1, e2, e3, e4⟩ => ⟨g, c, cur, e1, e2, hk.far _ _ _ _ e3 h1 h2, e4⟩)⟩
theorem ixr_keepR {B : Nat} {W W' : World} {b e f g : Nat} {ps : List Nat} (h : Ixr W b e f ps g) (hk : KeepR B W W') : Ixr W' b e f ps g := by
  obtain ⟨oa, cap, k1, k2, k3⟩ := h
  exact ⟨oa, cap, hk.far _ _ _ _ k1 (by decide) (by decide), row_keepR k2 (by decide) (by decide) hk, k3⟩
theorem rxr_keepX {B : Nat} {W W' : World} {b c e f g e' f' g' : Nat} {ps qs : List Nat} (h : Rxr B W c e f ps g) (h1 : Ixr W b e' f' qs g') (hne : c ≠ b) (hk : KeepX (fun i => i = b) W W') : Rxr B W' c e f ps g := by
  obtain ⟨h0, v, k1, k2⟩ := h
  obtain ⟨_, _, q1, _⟩ := h1
  exact ⟨h0, v, (hk.block c (Array.getElem?_eq_some_iff.1 k1).1 hne).trans k1, row_keepX k2 q1 (by decide) hk⟩
theorem keepR_below {n B : Nat} {w W W' : World} (h : Below n w W) (hn : n ≤ B) (hn2 : n ≤ w.heap.size) (hk : KeepR B W W') : Below n w W' :=
  ⟨hk.os.trans h.os, hk.tape.trans h.tape, hk.output.trans h.output, Nat.le_trans h.size hk.size, fun i hi => (hk.low i (by omega) (by have := h.size; omega)).trans (h.block i hi)⟩

theorem good_lt (l : List UInt8) : ∀ (k a : Nat) (f : Int), ∀ p ∈ scanP l k a f, p < goodP l a (scanP l k a f) := by
  intro k
  induction k with
  | zero => intro a f p hp; cases hp
  | succ k ih =>
    intro a f p hp
    unfold scanP at hp ⊢
    by_cases h : fGood l a f
    · rw [if_pos h] at hp ⊢
      show p < goodP l (fNext l a) (scanP l k (fNext l a) (f + 1))
      rcases List.mem_cons.1 hp with rfl | hp
      · have := good_ge l k (fNext l p) (f + 1)
        have h2 : p < fNext l p := by unfold fNext; omega
        omega
      · exact ih _ _ p hp
    · rw [if_neg h] at hp; cases hp
theorem good_le (l : List UInt8) : ∀ (k a : Nat) (f : Int), a ≤ l.length → goodP l a (scanP l k a f) ≤ l.length := by
  intro k
  induction k with
  | zero => intro a f h; exact h
  | succ k ih =>
    intro a f h
    unfold scanP
    by_cases hg : fGood l a f
    · rw [if_pos hg]
      exact ih (fNext l a) (f + 1) (fE_zero hg.1).2.2.1
    · rw [if_neg hg]; exact h
theorem ix_good (l : List UInt8) (h : hdE l = 0) : (∀ p ∈ ixP l, p < ixG l) ∧ ixG l ≤ l.length := by
  have h16 := (hd_ok h).1
  unfold ixP ixG scanG scanL
  rw [if_neg (by omega), if_neg (by omega)]
  exact ⟨good_lt l _ _ _, good_le l _ _ _ h16⟩

/-- between two rounds -/
def tlI (B N F b c i : Nat) (ps : List Nat) (G : Nat) (w W : World) : Prop :=
  Ixr W b N F ps G ∧ Rxr B W c N F ps G ∧ Below w.heap.size w W ∧ F + ps.length ≤ 1200000 + i ∧ G ≤ 1100000 + 4112 * i ∧ ∀ p ∈ ps, p < G

set_option maxRecDepth 100000 in
set_option maxHeartbeats 8000000 in
theorem tells_any {len cap : Nat} {oa : Option Addr} (s : ByteArray) (e : Int) (z : List Int) (w : World) (hz : IntsIn .i64 w oa len cap z) :
    Calls Try.prog 7 #[.string s, .int .i64 e, .slice oa len cap] w fun e w' => e = .returned (.bool true) ∧ Below w.heap.size w w' := by
  have HZ := Lib.hid hz
  clear hz
  by_cases h1 : 12000 < s.size
  · have d1 : decide ((12000 : Int) < (s.size : Int)) = true := decide_eq_true (by omega)
    go_enter Try.func7, Try.ntmps7
    go_wp2_with fail
    refine (works12 w).mono ?_
    rintro e' w1 ⟨rfl, hb1⟩
    go_wp2_with fail
    go_ret
    exact ⟨rfl, hb1⟩
  have d1 : decide ((12000 : Int) < (s.size : Int)) = false := decide_eq_false (by omega)
  by_cases h2 : 200 < len
  · have d2 : decide ((200 : Int) < (len : Int)) = true := decide_eq_true (by omega)
    go_enter Try.func7, Try.ntmps7
    go_wp2_with fail
    refine (works12 w).mono ?_
    rintro e' w1 ⟨rfl, hb1⟩
    go_wp2_with fail
    go_ret
    exact ⟨rfl, hb1⟩
  have d2 : decide ((200 : Int) < (len : Int)) = false := decide_eq_false (by omega)
  have HB := Lib.hid (fun w' => build_any s e w' (by omega))
  have HC := Lib.hid (fun w' => rbuild_any s e w' (by omega))
  by_cases hbd : bdE e s.data.toList = 0
  case neg =>
    obtain ⟨E, hE⟩ : ∃ E, bdE e s.data.toList = E := ⟨_, rfl⟩
    rw [hE] at HB HC hbd
    have d3 : ((E : Int) != 0) = true := by rw [bne_iff_ne]; omega
    have d4 : ((E : Int) == 0) = false := by rw [beq_eq_false_iff_ne]; omega
    go_enter Try.func7, Try.ntmps7
    go_wp2_with fail
    refine (HB.out w).mono ?_
    rintro e' w1 (⟨_, rfl, hb1⟩ | ⟨h, _⟩)
    rotate_left
    · exact absurd h hbd
    have HB1 := Lib.hid hb1
    clear hb1
    go_wp2_with fail
    refine (HC.out w1).mono ?_
    rintro e' w2 (⟨_, rfl, hb2⟩ | ⟨h, _⟩)
    rotate_left
    · exact absurd h hbd
    have HB2 := Lib.hid (HB1.out.trans (hb2.mono HB1.out.size))
    clear hb2
    go_wp2_with fail
    refine wp_loop_rounds 1 ?_
    rw [rounds_succ]
    by_cases h0 : 0 < len
    all_goals
      go_wp2_with fail
      refine (works12 w2).mono ?_
      rintro e' w3 ⟨rfl, hb3⟩
      have HB3 := Lib.hid (HB2.out.trans (hb3.mono HB2.out.size))
      clear hb3
      go_wp2_with fail
      go_ret
      exact ⟨rfl, HB3.out⟩
  have he1 : 0 < e.toNat ∧ e.toNat ≤ 64 := by
    unfold bdE at hbd
    by_cases h : e < 1 ∨ 64 < e
    · rw [if_pos h] at hbd; cases hbd
    · omega
  have hhd : hdE s.data.toList = 0 := by
    unfold bdE at hbd
    by_cases h : e < 1 ∨ 64 < e
    · rw [if_pos h] at hbd; cases hbd
    · rwa [if_neg h] at hbd
  rw [hbd] at HB HC
  obtain ⟨bF, bP, _⟩ := ix_bounds s.data.toList (show s.size ≤ 1000000 by omega) hhd
  obtain ⟨bL, bG⟩ := ix_good s.data.toList hhd
  have bS : s.data.toList.length = s.size := rfl
  obtain ⟨F, hF⟩ : ∃ F, ixF s.data.toList = F := ⟨_, rfl⟩
  obtain ⟨ps0, hps⟩ : ∃ ps, ixP s.data.toList = ps := ⟨_, rfl⟩
  obtain ⟨G0, hG⟩ : ∃ G, ixG s.data.toList = G := ⟨_, rfl⟩
  obtain ⟨N, hN⟩ : ∃ N, e.toNat = N := ⟨_, rfl⟩
  rw [hF, hps, hG, hN] at HB HC
  rw [hF] at bF
  rw [hps] at bP bL
  rw [hG] at bL bG
  rw [hN] at he1
  obtain ⟨hN1, hN2⟩ := he1
  clear hF hps hG hN hhd hbd
  go_enter Try.func7, Try.ntmps7
  go_wp2_with fail
  refine (HB.out w).mono ?_
  rintro e' w1 (⟨h, _⟩ | ⟨_, b0, rfl, hbb, hix, hb1⟩)
  · exact absurd rfl h
  have HI := Lib.hid hix
  have HB1 := Lib.hid hb1
  clear hb1 hix
  go_wp2_with fail
  refine (HC.out w1).mono ?_
  rintro e' w2 (⟨h, _⟩ | ⟨_, c, rfl, hrx, hb2⟩)
  · exact absurd rfl h
  have hI0 : tlI w1.heap.size N F b0 c 0 ps0 G0 w w2 := ⟨HI.out.keep hb2, hrx, HB1.out.trans (hb2.mono HB1.out.size), by omega, by omega, bL⟩
  have HI0 := Lib.hid hI0
  have hw1 : w.heap.size ≤ w1.heap.size := HB1.out.size
  clear hb2 hrx HI bL hI0
  go_wp2_with fail
  go_loopw [7, 11] (fun xv iv W => ∃ (i b : Nat) (ps : List Nat) (G : Nat), i ≤ len ∧ iv = .int .i64 i ∧ xv = .pointer (some ⟨b, 0, none⟩) ∧ w1.heap.size ≤ W.heap.size ∧ tlI w1.heap.size N F b c i ps G w W) (fun _ iv _ => len - (intOf iv).toNat)
  case atStart => exact ⟨0, b0, ps0, G0, Nat.zero_le _, rfl, rfl, by have := HI0.out.2.1.lt; have := HI0.out.2.1.1; omega, HI0.out⟩
  case round =>
    obtain ⟨i, b, ps, G, hi, rfl, rfl, hsz, t1, t2, t3, t4, t5, t6⟩ := hrel
    have T1 := Lib.hid t1
    have T2 := Lib.hid t2
    have T3 := Lib.hid t3
    have T6 := Lib.hid t6
    have hi200 : len ≤ 200 := by omega
    clear t1 t2 t3 t6 HI0 HB HC
    by_cases hin : i < len
    · have d5 : decide ((i : Int) < (len : Int)) = true := decide_eq_true (by omega)
      have hLK := Lib.hid (like_eq w1.heap.size b c N F G ps wr hN1 hN2 (by omega) T1.out T2.out)
      go_wp2_with fail
      refine hLK.out.mono ?_
      rintro e' w3 ⟨rfl, hb3⟩
      have A1 := Lib.hid (T1.out.keep hb3)
      have A2 := Lib.hid (T2.out.keep hb3)
      have A3 := Lib.hid (T3.out.trans (hb3.mono T3.out.size))
      have hsz3 : w1.heap.size ≤ w3.heap.size := Nat.le_trans hsz hb3.size
      have hbl3 := A1.out.lt
      have hcl3 := A2.out.lt
      clear hb3 hLK
      go_wp2_with fail
      refine (copy_any b N F G ps w3 hN1 (by omega) A1.out).mono ?_
      rintro e' w4 ⟨rfl, hc4, hb4⟩
      have B0 := Lib.hid hc4
      have B1 := Lib.hid (A1.out.keep hb4)
      have B2 := Lib.hid (A2.out.keep hb4)
      have B3 := Lib.hid (A3.out.trans (hb4.mono A3.out.size))
      have hsz4 : w1.heap.size ≤ w4.heap.size := Nat.le_trans hsz3 hb4.size
      clear hc4 hb4
      obtain ⟨d, hd⟩ : ∃ d, w3.heap.size = d := ⟨_, rfl⟩
      rw [hd] at B0 hbl3 hcl3 hsz3
      rw [hd]
      clear hd
      have hcell : ∀ W, Below w.heap.size w W → ∃ bb off, oa = some ⟨bb, off, none⟩ ∧ W.cell? ⟨bb, off + i, none⟩ = some (.int .i64 (z.getD i 0)) := by
        intro W hW
        obtain ⟨_, _, _, _, hcl⟩ := HZ.out
        rcases hcl with h0 | ⟨bb, off, e, hbb, hc⟩
        · omega
        · exact ⟨bb, off, e, (hW.cell (p := ⟨bb, off + i, none⟩) hbb).trans (hc i hin)⟩
      have HCL := Lib.hid hcell
      clear hcell
      obtain ⟨n, hnz⟩ : ∃ n, z.getD i 0 = n := ⟨_, rfl⟩
      rw [hnz] at HCL
      clear hnz
      obtain ⟨bb, off, hoa, hc4⟩ := HCL.out w4 B3.out
      subst hoa
      have HMA := Lib.hid (fun W (hW : Ixr W b N F ps G) => marks_any b N F G ps W hN1 (by omega) hW)
      have HML := Lib.hid (marks_len N F ps)
      have HMG := Lib.hid (fun j => marks_get N F ps j)
      have HCN := Lib.hid (fun j => cnt_lt N ps.length j hN1)
      have HCB := Lib.hid (Nat.le_trans (cnt_le N ps.length hN1) (by omega : ps.length ≤ 1300000))
      obtain ⟨C, hC⟩ : ∃ C, cntM N ps.length = C := ⟨_, rfl⟩
      rw [hC] at HMA HML HMG HCN HCB
      obtain ⟨E, hE⟩ : ∃ E, addE (F + ps.length) n = E := ⟨_, rfl⟩
      have hadd := add_any d N F G ps n w4 hN1 (by omega) B0.out
      have hradd := fun W hW (hB : w1.heap.size ≤ W.heap.size) => radd_any w1.heap.size c N F G ps n W (by omega) (by omega) hB hW
      unfold raP at hradd
      rw [hE] at hadd hradd
      have HAD := Lib.hid hadd
      have HRA := Lib.hid (fun W (hW : Rxr w1.heap.size W c N F ps G) (hB : w1.heap.size ≤ W.heap.size) => (hradd W hW hB))
      have HEE := Lib.hid hE
      clear hadd hradd hC hE
      go_wp2_with fail
      refine HAD.out.mono ?_
      rintro e' w5 (⟨hE0, rfl, k1, k2⟩ | ⟨hEn, rfl, rfl⟩)
      · have D0 := Lib.hid k1
        have D1 := Lib.hid (ixr_keepX B1.out B0.out (by omega) k2)
        have D2 := Lib.hid (rxr_keepX B2.out B0.out (by omega) k2)
        have D3 := Lib.hid (keepX_below B3.out (by omega : w.heap.size ≤ d) (Nat.le_refl _) k2)
        have hsz5 : w1.heap.size ≤ w5.heap.size := Nat.le_trans hsz4 k2.size
        clear k1 k2
        go_wp2_with fail
        refine (HMA.out w5 D1.out).mono ?_
        rintro e' w6 ⟨oa2, cap2, rfl, hrow, _, hb6⟩
        have E0 := Lib.hid (D0.out.keep hb6)
        have E1 := Lib.hid (D1.out.keep hb6)
        have E2 := Lib.hid (D2.out.keep hb6)
        have E3 := Lib.hid (D3.out.trans (hb6.mono D3.out.size))
        have ER := Lib.hid hrow
        have hsz6 : w1.heap.size ≤ w6.heap.size := Nat.le_trans hsz5 hb6.size
        clear hrow hb6
        obtain ⟨bb', off', hoa, hc6⟩ := HCL.out w6 E3.out
        cases hoa
        go_wp2_with fail
        refine (HRA.out w6 E2.out hsz6).mono ?_
        rintro e' w7 (⟨_, rfl, r1, r2⟩ | ⟨h, _⟩)
        rotate_left
        · exact absurd hE0 h
        have hx := HEE.out
        rw [hE0] at hx
        have hlen : 1 ≤ n ∧ n ≤ 4096 := by
          unfold addE lenOk at hx
          by_cases hh : 1 ≤ n ∧ n ≤ 4096
          · exact hh
          · rw [if_pos hh] at hx; cases hx
        have F0 := Lib.hid (ixr_keepR E0.out r2)
        have F1 := Lib.hid (ixr_keepR E1.out r2)
        have F2 := Lib.hid r1
        have F3 := Lib.hid (keepR_below E3.out hw1 (Nat.le_refl _) r2)
        have FR := Lib.hid (row_keepR ER.out (by decide) (by decide) r2)
        have hsz7 : w1.heap.size ≤ w7.heap.size := Nat.le_trans hsz6 r2.size
        have HN1 := Lib.hid (ixNext b N F G ps w7 F1.out)
        have HN2 := Lib.hid (ixNext d N F (G + 16 + n.toNat) (ps ++ [G]) w7 F0.out)
        obtain ⟨Q, hQ⟩ : ∃ Q, F + ps.length = Q := ⟨_, rfl⟩
        have hQ2 : F + (ps ++ [G]).length = Q + 1 := by rw [List.length_append, List.length_singleton]; omega
        rw [hQ] at HN1
        rw [hQ2] at HN2
        have hwq : IntKind.i64.wrap ((Q : Int) + 1 - 1) = (Q : Int) := by rw [IntWalk.i64_in _ (by omega)]; omega
        have hwq2 : IntKind.i64.wrap (((Q + 1 : Nat) : Int) - 1) = (Q : Int) := by rw [IntWalk.i64_in _ (by omega)]; omega
        clear r1 r2
        by_cases hC0 : 0 < C
        · obtain ⟨g, rfl, hg, _, hrc⟩ := mrow_cells FR.out hC0
          have hm := HMG.out (C - 1) (by omega)
          obtain ⟨m1, m2⟩ := mkRow_get _ _ _ hm
          have p1 := hrc _ _ m2
          have hlast := (HCN.out (C - 1)).1 (by omega)
          have hPG := T6.out (ps.getD ((C - 1) * N) 0) (by rw [List.getD_eq_getElem?_getD, List.getElem?_eq_getElem hlast]; exact List.getElem_mem _)
          obtain ⟨P, hP⟩ : ∃ P, ps.getD ((C - 1) * N) 0 = P := ⟨_, rfl⟩
          rw [hP] at p1 hPG
          replace p1 : w7.cell? ⟨g, (C - 1) * 2 + 1, none⟩ = some (.int .i64 (P : Int)) := p1
          have dP : decide ((G : Int) ≤ (P : Int)) = false := decide_eq_false (by omega)
          have hwc : IntKind.i64.wrap ((C : Int) - 1) = ((C - 1 : Nat) : Int) := by rw [IntWalk.i64_in _ (by have := HCB.out; omega)]; omega
          have d9 : decide ((0 : Int) < (C : Int)) = true := decide_eq_true (by omega)
          obtain ⟨K, hK⟩ : ∃ K, C - 1 = K := ⟨_, rfl⟩
          rw [hK] at hwc p1
          have hKC : K < C := by omega
          clear hrc hm m1 m2 hP hlast
          go_wp2_with fail
          refine HN1.out.mono ?_
          rintro e' w8 ⟨rfl, rfl⟩
          go_wp2_with fail
          refine HN2.out.mono ?_
          rintro e' w8 ⟨rfl, rfl⟩
          go_wp2_with fail
          refine ⟨⟨i + 1, d, ps ++ [G], G + 16 + n.toNat, by omega, rfl, rfl, hsz7, F0.out, F2.out, F3.out, by rw [List.length_append, List.length_singleton]; omega, by omega, fun p hp => ?_⟩, by simp [intOf]; omega⟩
          rcases List.mem_append.1 hp with h | h
          · have := T6.out p h; omega
          · rw [List.mem_singleton.1 h]; omega
        · obtain rfl : C = 0 := by omega
          go_wp2_with fail
          refine HN1.out.mono ?_
          rintro e' w8 ⟨rfl, rfl⟩
          go_wp2_with fail
          refine HN2.out.mono ?_
          rintro e' w8 ⟨rfl, rfl⟩
          go_wp2_with fail
          refine ⟨⟨i + 1, d, ps ++ [G], G + 16 + n.toNat, by omega, rfl, rfl, hsz7, F0.out, F2.out, F3.out, by rw [List.length_append, List.length_singleton]; omega, by omega, fun p hp => ?_⟩, by simp [intOf]; omega⟩
          rcases List.mem_append.1 hp with h | h
          · have := T6.out p h; omega
          · rw [List.mem_singleton.1 h]; omega
      · have d10 : ((E : Int) == 0) = false := by rw [beq_eq_false_iff_ne]; omega
        go_wp2_with fail
        refine (HMA.out w4 B1.out).mono ?_
        rintro e' w6 ⟨oa2, cap2, rfl, _, _, hb6⟩
        have E0 := Lib.hid (B0.out.keep hb6)
        have E2 := Lib.hid (B2.out.keep hb6)
        have E3 := Lib.hid (B3.out.trans (hb6.mono B3.out.size))
        have hsz6 : w1.heap.size ≤ w6.heap.size := Nat.le_trans hsz4 hb6.size
        clear hb6
        obtain ⟨bb', off', hoa, hc6⟩ := HCL.out w6 E3.out
        cases hoa
        go_wp2_with fail
        refine (HRA.out w6 E2.out hsz6).mono ?_
        rintro e' w7 (⟨h, _⟩ | ⟨_, rfl, hb7⟩)
        · exact absurd h hEn
        have F0 := Lib.hid (E0.out.keep hb7)
        have F2 := Lib.hid (E2.out.keep hb7)
        have F3 := Lib.hid (E3.out.trans (hb7.mono E3.out.size))
        have hsz7 : w1.heap.size ≤ w7.heap.size := Nat.le_trans hsz6 hb7.size
        clear hb7
        go_wp2_with fail
        exact ⟨⟨i + 1, d, ps, G, by omega, rfl, rfl, hsz7, F0.out, F2.out, F3.out, by omega, by omega, T6.out⟩, by simp [intOf]; omega⟩
    · obtain rfl : i = len := by omega
      have hLK := Lib.hid (like_eq w1.heap.size b c N F G ps wr hN1 hN2 (by omega) T1.out T2.out)
      go_wp2_with fail
      refine hLK.out.mono ?_
      rintro e' w3 ⟨rfl, hb3⟩
      have A3 := Lib.hid (T3.out.trans (hb3.mono T3.out.size))
      clear hb3 hLK
      go_wp2_with fail
      refine (works12 w3).mono ?_
      rintro e' w4 ⟨rfl, hb4⟩
      have A4 := Lib.hid (A3.out.trans (hb4.mono A3.out.size))
      clear hb4
      go_wp2_with fail
      go_ret
      exact ⟨rfl, A4.out⟩

end Go.Proofs.Ytmeefecpnfclpaa
