/- Walks over the reference soukref12: Next, Steps, Get. -/
import Derived.Test.YtmeefecpnfclpaaRIdx
import Derived.Test.YtmeefecpnfclpaaIdxH
namespace Go.Proofs.Ytmeefecpnfclpaa
open Go.RowKit

/-- how many frames are read for one -/
def stE (e f n : Nat) (q : Int) : Nat := if inIx f n q then (q.toNat - f) % e + 1 else 0
theorem steps_any (b e f gd : Nat) (ps : List Nat) (q : Int) (w : World) (he : 0 < e) (hn : f + ps.length ≤ 1000000000) (h : Ixr w b e f ps gd) :
    Calls Try.prog 14 #[.pointer (some ⟨b, 0, none⟩), .int .i64 q] w fun e' w' => e' = .returned (.int .i64 (stE e f ps.length q)) ∧ Below w.heap.size w w' := by
  unfold stE
  by_cases hq : inIx f ps.length q
  · rw [if_pos hq]
    unfold inIx at hq
    obtain ⟨m, rfl⟩ : ∃ m : Nat, q = m := ⟨q.toNat, by omega⟩
    rw [Int.toNat_natCast]
    exact steps_yes b e f gd ps m w he hn h (by omega) (by omega)
  · rw [if_neg hq]; exact steps_no b e f gd ps q w h hq

theorem Rxr.form {B : Nat} {w : World} {b e f gd : Nat} {ps : List Nat} (h : Rxr B w b e f ps gd) :
    ∃ oa cap, w.heap[b]? = some (.cells (rxC f e (.slice oa ps.length cap) gd) 72) ∧ w.ownsRow B 3 1 (.slice oa ps.length cap) ps.length (ints ps) := by
  obtain ⟨_, v, h1, h2⟩ := h
  rcases h2.2 with ⟨rfl, h0⟩ | ⟨g, c, cur, rfl, _⟩
  · rw [h0] at h2 ⊢; exact ⟨none, 0, h1, h2⟩
  · exact ⟨_, _, h1, h2⟩

set_option maxHeartbeats 400000 in
theorem rNext_any (B b e f gd : Nat) (ps : List Nat) (w : World) (hn : f + ps.length ≤ 1000000000) (h : Rxr B w b e f ps gd) :
    Calls Try.prog 35 #[.pointer (some ⟨b, 0, none⟩)] w fun e' w' => e' = .returned (.int .i64 ((f + ps.length : Nat) : Int)) ∧ Below w.heap.size w w' := by
  obtain ⟨oa, cap, h1, _⟩ := h.form
  obtain ⟨c0, c1, c2, c3, fz⟩ := rx_cells h1
  obtain ⟨n, hnn⟩ : ∃ n, ps.length = n := ⟨_, rfl⟩
  rw [hnn] at hn c2 ⊢
  have hw : IntKind.i64.wrap ((f : Int) + (n : Int)) = ((f + n : Nat) : Int) := by rw [IntWalk.i64_in _ (by omega)]; omega
  clear fz h1 h hnn
  obtain ⟨N, hN⟩ : ∃ N, f + n = N := ⟨_, rfl⟩
  rw [hN] at hw ⊢
  clear hN
  go_enter Try.func35, Try.ntmps35
  go_wp2_with fail
  go_quiet (fail)
  go_wp2_with fail
  go_ret
  exact ⟨rfl, below_drewN (Below.refl _ _) _⟩

set_option maxHeartbeats 1000000 in
theorem rsteps_any (B b e f gd : Nat) (ps : List Nat) (q : Int) (w : World) (he : 0 < e) (he2 : e ≤ 64) (hn : f + ps.length ≤ 1000000000) (h : Rxr B w b e f ps gd) :
    Calls Try.prog 15 #[.pointer (some ⟨b, 0, none⟩), .int .i64 q] w fun e' w' => e' = .returned (.int .i64 (stE e f ps.length q)) ∧ Below w.heap.size w w' := by
  have HN := Lib.hid (rNext_any B b e f gd ps w hn h)
  obtain ⟨oa, cap, h1, _⟩ := h.form
  obtain ⟨c0, c1, c2, c3, fz⟩ := rx_cells h1
  have hbl : b < w.heap.size := h.lt
  unfold stE
  have hix : inIx f ps.length q ↔ (f : Int) ≤ q ∧ q < ((f + ps.length : Nat) : Int) := Iff.rfl
  obtain ⟨N, hN⟩ : ∃ N, f + ps.length = N := ⟨_, rfl⟩
  rw [hN] at HN hn hix
  clear h1 fz h c2 c3
  by_cases h1 : q < f
  · have d1 : decide (q < (f : Int)) = true := decide_eq_true h1
    rw [if_neg (fun hh => by have := hix.1 hh; omega)]
    go_enter Try.func15, Try.ntmps15
    go_wp2_with fail
    go_ret
    exact ⟨rfl, Below.refl _ _⟩
  have d1 : decide (q < (f : Int)) = false := decide_eq_false h1
  by_cases h2 : (N : Int) ≤ q
  · have d2 : decide ((N : Int) ≤ q) = true := decide_eq_true h2
    rw [if_neg (fun hh => by have := hix.1 hh; omega)]
    go_enter Try.func15, Try.ntmps15
    go_wp2_with fail
    refine HN.out.mono ?_
    rintro e' w1 ⟨rfl, hb1⟩
    go_wp2_with fail
    go_ret
    exact ⟨rfl, hb1⟩
  have d2 : decide ((N : Int) ≤ q) = false := decide_eq_false h2
  rw [if_pos (hix.2 (by omega))]
  obtain ⟨m, rfl⟩ : ∃ m : Nat, q = m := ⟨q.toNat, by omega⟩
  rw [Int.toNat_natCast]
  obtain ⟨r, hr⟩ : ∃ r, (m - f) % e + 1 = r := ⟨_, rfl⟩
  have hml := Nat.mod_lt (m - f) he
  have hw1 : IntKind.i64.wrap ((m : Int) - (f : Int)) = ((m - f : Nat) : Int) := by rw [IntWalk.i64_in _ (by omega)]; omega
  have hw2 : (((m - f : Nat) : Int)).tmod (e : Int) = (((m - f) % e : Nat) : Int) := by rw [Int.tmod_eq_emod_of_nonneg (by omega)]; exact (Int.natCast_emod _ _).symm
  have hw3 : IntKind.i64.wrap ((((m - f) % e : Nat) : Int) + 1) = (r : Int) := by rw [IntWalk.i64_in _ (by omega)]; omega
  have hw4 : IntKind.i64.wrap (((m - f) % e : Nat) : Int) = (((m - f) % e : Nat) : Int) := IntWalk.i64_in _ (by omega)
  have hw5 : IntKind.i64.wrap (((m - f : Nat) : Int)) = ((m - f : Nat) : Int) := IntWalk.i64_in _ (by omega)
  have he0 : ((e : Int) == 0) = false := by rw [beq_eq_false_iff_ne]; omega
  rw [hr]
  generalize (m - f) % e = x at *
  generalize m - f = y at *
  have C0 := Lib.hid c0
  have C1 := Lib.hid c1
  go_enter Try.func15, Try.ntmps15
  go_wp2_with fail
  refine HN.out.mono ?_
  rintro e' w1 ⟨rfl, hb1⟩
  have k0 := (hb1.cell (p := ⟨b, 0, none⟩) hbl).trans C0.out
  have k1 := (hb1.cell (p := ⟨b, 1, none⟩) hbl).trans C1.out
  have HB1 := Lib.hid hb1
  clear c0 c1 hb1
  go_wp2_with fail
  go_quiet (fail)
  go_wp2_with fail
  go_ret
  exact ⟨rfl, below_drewN HB1.out _⟩


theorem getE_far (l : List UInt8) (k a q : Nat) (h : l.length < a) : getE l k a q = 8 := by
  unfold getE
  have hm : min a l.length = l.length := by omega
  have h8 : fE l l.length = 8 := by unfold fE; rw [if_pos (by omega)]
  rw [hm, h8, if_pos (by decide)]
theorem getE_bad (l : List UInt8) (k a q : Nat) (h : a ≤ l.length) (he : fE l a ≠ 0) : getE l k a q = fE l a := by
  unfold getE
  rw [Nat.min_eq_left h, if_pos he]
theorem getE_seq (l : List UInt8) (k a q : Nat) (h : a ≤ l.length) (he : fE l a = 0) (hq : fQ l a ≠ q) : getE l k a q = 4 := by
  unfold getE
  rw [Nat.min_eq_left h, if_neg (not_not_intro he), if_pos hq]
theorem getE_zero (l : List UInt8) (a q : Nat) (h : a ≤ l.length) (he : fE l a = 0) (hq : fQ l a = q) : getE l 0 a q = 0 ∧ getP l 0 a q = sl l (a + 16) (fN l a) := by
  have h0 : getE l 0 a q = 0 := by
    unfold getE
    rw [Nat.min_eq_left h, if_neg (not_not_intro he), if_neg (not_not_intro hq)]
  refine ⟨h0, ?_⟩
  unfold getP getA
  rw [if_pos h0, Nat.min_eq_left h]
theorem getE_next (l : List UInt8) (k a q : Nat) (h : a ≤ l.length) (he : fE l a = 0) (hq : fQ l a = q) : getE l (k + 1) a q = getE l k (fNext l a) (q + 1) ∧ getP l (k + 1) a q = getP l k (fNext l a) (q + 1) := by
  have h0 : getE l (k + 1) a q = getE l k (fNext l a) (q + 1) := by
    conv => lhs; unfold getE
    rw [Nat.min_eq_left h, if_neg (not_not_intro he), if_neg (not_not_intro hq)]
  refine ⟨h0, ?_⟩
  have hA : getA l (k + 1) a = getA l k (fNext l a) := by show getA l k (fNext l (min a l.length)) = _; rw [Nat.min_eq_left h]
  unfold getP
  rw [h0, hA]
theorem getP_bad (l : List UInt8) (k a q : Nat) (h : getE l k a q ≠ 0) : bs (getP l k a q) = ⟨#[]⟩ := by unfold getP; rw [if_neg h]; rfl

set_option maxRecDepth 100000 in
set_option maxHeartbeats 2000000 in
theorem rget_in (B b e f gd : Nat) (ps : List Nat) (s : ByteArray) (q : Nat) (w : World) (he : 0 < e) (he2 : e ≤ 64) (hn : f + ps.length ≤ 1000000000) (hs : s.size ≤ 1000000) (hpb : ∀ p ∈ ps, p ≤ 1000000000) (h : Rxr B w b e f ps gd) (hq1 : f ≤ q) (hq2 : q < f + ps.length) :
    Calls Try.prog 13 #[.pointer (some ⟨b, 0, none⟩), .string s, .int .i64 q] w
      fun e' w' => e' = .returned (.tuple #[.string (bs (getP s.data.toList ((q - f) % e) (ps.getD ((q - f) / e * e) 0) (f + (q - f) / e * e))), .int .i64 (getE s.data.toList ((q - f) % e) (ps.getD ((q - f) / e * e) 0) (f + (q - f) / e * e))]) ∧ Below w.heap.size w w' := by
  obtain ⟨p1, p2, p3, p4⟩ := mark_pos e f ps.length q he hq1 hq2
  have hst := rsteps_any B b e f gd ps q w he he2 hn h
  unfold stE at hst
  rw [if_pos (show inIx f ps.length q by unfold inIx; omega), Int.toNat_natCast] at hst
  obtain ⟨r, hr⟩ : ∃ r, (q - f) % e = r := ⟨_, rfl⟩
  obtain ⟨D, hD⟩ : ∃ D, (q - f) / e * e = D := ⟨_, rfl⟩
  rw [hr] at hst p4 ⊢
  rw [hD] at p2 p4 ⊢
  obtain ⟨A, hA⟩ : ∃ A, ps.getD D 0 = A := ⟨_, rfl⟩
  have hAb : A ≤ 1000000000 := by
    rw [← hA, List.getD_eq_getElem?_getD]
    cases hx : ps[D]? with
    | none => exact Nat.zero_le _
    | some z => exact hpb z (List.mem_of_getElem? hx)
  obtain ⟨oa, cap, h1, h2⟩ := h.form
  have hbl := h.lt
  obtain ⟨c0, c1, c2, c3, fz⟩ := rx_cells h1
  have hDl : D < ps.length := by omega
  have hrow : ∃ g, oa = some ⟨g, 0, none⟩ ∧ g < w.heap.size ∧ w.cell? ⟨g, D, none⟩ = some (.int .i64 A) := by
    rcases h2.2 with ⟨_, h0⟩ | ⟨g, c, cur, hv, hB, hcur, _⟩
    · omega
    · cases hv
      have c0 := h2.cells (g := g) rfl D _ (ints_get ps D hDl)
      rw [hA] at c0
      have add : (⟨g, 0, none⟩ : Addr).add D = ⟨g, D, none⟩ := by unfold Addr.add; split <;> simp_all
      rw [add] at c0
      exact ⟨g, rfl, (Array.getElem?_eq_some_iff.1 hcur).1, c0⟩
  obtain ⟨g, rfl, hg, hcD⟩ := hrow
  rw [hA]
  obtain ⟨n, hnn⟩ : ∃ n, ps.length = n := ⟨_, rfl⟩
  rw [hnn] at c2 hn hDl hq2
  obtain ⟨E, P, hEP1, hEP2⟩ : ∃ E P, bs (getP s.data.toList r A (f + D)) = P ∧ getE s.data.toList r A (f + D) = E := ⟨_, _, rfl, rfl⟩
  rw [hEP1, hEP2]
  have C0 := Lib.hid c0
  have C2 := Lib.hid c2
  have CD := Lib.hid hcD
  have HST := Lib.hid hst
  have HE := Lib.hid (And.intro hEP1 hEP2)
  obtain ⟨M, hM⟩ : ∃ M, f + D = M := ⟨_, rfl⟩
  have hqM : q = M + r := by omega
  have hMf : M - f = D := by omega
  have hMb : M ≤ 1000000000 := by omega
  have hrb : r ≤ 64 := by have := Nat.mod_lt (q - f) he; omega
  rw [hM] at HE
  clear h1 h2 h fz c0 c1 c2 c3 hcD hst hEP1 hEP2 hr hD hA hnn p1 p2 p3 p4 hpb
  subst hqM
  have hw1 : IntKind.i64.wrap (((M + r : Nat) : Int) - ((r + 1 : Nat) : Int)) = (M : Int) - 1 := by rw [IntWalk.i64_in _ (by omega)]; omega
  have hw2 : IntKind.i64.wrap ((M : Int) - 1 + 1) = (M : Int) := by rw [IntWalk.i64_in _ (by omega)]; omega
  have hw3 : IntKind.i64.wrap ((M : Int) - (f : Int)) = (D : Int) := by rw [IntWalk.i64_in _ (by omega)]; omega
  obtain ⟨Q, hQ⟩ : ∃ Q, M + r = Q := ⟨_, rfl⟩
  obtain ⟨R, hR⟩ : ∃ R, r + 1 = R := ⟨_, rfl⟩
  rw [hQ, hR] at hw1
  rw [hQ, hR] at HST
  rw [hQ]
  have hr0 : ((R : Int) == 0) = false := by rw [beq_eq_false_iff_ne]; omega
  have x0 : (0 : Int) ≤ (D : Int) := by omega
  have x1 : (D : Int) < (n : Int) := by omega
  go_enter Try.func13, Try.ntmps13
  go_wp2_with fail
  refine HST.out.mono ?_
  rintro e' w1 ⟨rfl, hb1⟩
  have k0 := (hb1.cell (p := ⟨b, 0, none⟩) hbl).trans C0.out
  have k2 := (hb1.cell (p := ⟨b, 2, none⟩) hbl).trans C2.out
  have kD := (hb1.cell (p := ⟨g, D, none⟩) hg).trans CD.out
  have HB1 := Lib.hid hb1
  clear hb1
  go_wp2_with fail
  go_quiet (fail)
  go_wp2_with fail
  go_loopw [9, 10] (fun fv av W => ∃ k m c : Nat, m + k = Q ∧ fv = .int .i64 m ∧ av = .int .i64 c ∧ c ≤ 1000000000 ∧ bs (getP s.data.toList k c m) = P ∧ getE s.data.toList k c m = E ∧ Below w.heap.size w W) (fun fv _ _ => Q + 1 - (intOf fv).toNat)
  case atStart => exact ⟨r, M, A, hQ, rfl, rfl, hAb, HE.out.1, HE.out.2, below_drewN HB1.out _⟩
  case round =>
    obtain ⟨k, m, c, hmk, rfl, rfl, hc, hP, hE, hbl⟩ := hrel
    have hls : s.data.toList.length = s.size := rfl
    have HBL := Lib.hid hbl
    clear hbl HE
    by_cases hfar : s.size < c
    · have d1 : decide ((s.size : Int) < (c : Int)) = true := decide_eq_true (by omega)
      have hg := getE_far s.data.toList k c m (by omega)
      obtain rfl : E = 8 := by rw [← hE, hg]
      obtain rfl : P = ⟨#[]⟩ := by rw [← hP]; exact getP_bad _ _ _ _ (by rw [hg]; decide)
      clear hP hE hg
      go_wp2_with fail
      go_ret2
      exact ⟨rfl, HBL.out⟩
    have d1 : decide ((s.size : Int) < (c : Int)) = false := decide_eq_false (by omega)
    have hr := rread_any s c wr hs
    by_cases hg : fE s.data.toList c = 0
    case neg =>
      rw [readV_bad s c (by omega) hg] at hr
      have hge := getE_bad s.data.toList k c m (by omega) hg
      have hEE : fE s.data.toList c = E := by rw [← hE, hge]
      obtain rfl : P = ⟨#[]⟩ := by rw [← hP]; exact getP_bad _ _ _ _ (by rw [hge]; exact hg)
      unfold frV frCells at hr
      rw [hEE] at hr hg
      have d2 : ((E : Int) != 0) = true := by rw [bne_iff_ne]; omega
      have HR := Lib.hid hr
      clear hP hE hge hr hEE
      go_wp2_with fail
      refine HR.out.mono ?_
      rintro e' w2 ⟨rfl, hb2⟩
      have HB2 := Lib.hid (HBL.out.trans (hb2.mono HBL.out.size))
      clear hb2
      go_wp2_with fail
      go_ret2
      exact ⟨rfl, bel_alloc HB2.out _⟩
    rw [readV_good s c (by omega) hg] at hr
    obtain ⟨g1, g2, g3, g4⟩ := fE_zero hg
    have hn1 := g2.1.1
    unfold frAt frV frCells at hr
    obtain ⟨y, ey⟩ : ∃ y, bs (sl s.data.toList (c + 16) (fN s.data.toList c)) = y := ⟨_, rfl⟩
    obtain ⟨q, eq⟩ : ∃ q, fQ s.data.toList c = q := ⟨_, rfl⟩
    obtain ⟨x, ex⟩ : ∃ x, fNext s.data.toList c = x := ⟨_, rfl⟩
    rw [ey, eq, ex] at hr
    rw [ex] at g3
    by_cases hqm : q = m
    case neg =>
      have hge := getE_seq s.data.toList k c m (by omega) hg (by rw [eq]; exact hqm)
      obtain rfl : E = 4 := by rw [← hE, hge]
      obtain rfl : P = ⟨#[]⟩ := by rw [← hP]; exact getP_bad _ _ _ _ (by rw [hge]; decide)
      have d2 : ((q : Int) != (m : Int)) = true := by rw [bne_iff_ne]; omega
      have HR := Lib.hid hr
      clear hP hE hge hr ey eq ex g1 g2 g4 hg
      go_wp2_with fail
      refine HR.out.mono ?_
      rintro e' w2 ⟨rfl, hb2⟩
      have HB2 := Lib.hid (bel_alloc (HBL.out.trans (hb2.mono HBL.out.size)) (.cells #[.int .i64 q, .string y, .int .i64 c] 73))
      clear hb2
      go_wp2_with fail
      go_ret2
      exact ⟨rfl, HB2.out⟩
    subst hqm
    cases k with
    | zero =>
      obtain ⟨e1, e2⟩ := getE_zero s.data.toList c q (by omega) hg eq
      obtain rfl : E = 0 := by rw [← hE, e1]
      obtain rfl : P = y := by rw [← hP, e2, ey]
      obtain rfl : q = Q := by omega
      have HR := Lib.hid hr
      clear hP hE e1 e2 hr ey eq ex g1 g2 g4 hg
      go_wp2_with fail
      refine HR.out.mono ?_
      rintro e' w2 ⟨rfl, hb2⟩
      have HB2 := Lib.hid (bel_alloc (HBL.out.trans (hb2.mono HBL.out.size)) (.cells #[.int .i64 q, .string P, .int .i64 c] 73))
      clear hb2
      go_wp2_with fail
      go_ret2
      exact ⟨rfl, HB2.out⟩
    | succ k =>
      obtain ⟨e1, e2⟩ := getE_next s.data.toList k c q (by omega) hg eq
      rw [ex] at e1 e2
      have HPE := Lib.hid (show bs (getP s.data.toList k x (q + 1)) = P ∧ getE s.data.toList k x (q + 1) = E from ⟨by rw [← e2, hP], by rw [← e1, hE]⟩)
      have d3 : ((q : Int) == (Q : Int)) = false := by rw [beq_eq_false_iff_ne]; omega
      have HR := Lib.hid hr
      clear hP hE e1 e2 hr ey eq ex g1 g2 g4 hg
      go_wp2_with fail
      refine HR.out.mono ?_
      rintro e' w2 ⟨rfl, hb2⟩
      have HB2 := Lib.hid (bel_alloc (HBL.out.trans (hb2.mono HBL.out.size)) (.cells #[.int .i64 q, .string y, .int .i64 c] 73))
      clear hb2
      go_wp2_with fail
      refine ⟨⟨k, q + 1, x, by omega, val_int (by omega), rfl, by omega, HPE.out.1, HPE.out.2, HB2.out⟩, ?_⟩
      simp [intOf]; omega


theorem rget_any (B b e f gd : Nat) (ps : List Nat) (s : ByteArray) (q : Int) (w : World) (he : 0 < e) (he2 : e ≤ 64) (hn : f + ps.length ≤ 1000000000) (hs : s.size ≤ 1000000) (hpb : ∀ p ∈ ps, p ≤ 1000000000) (h : Rxr B w b e f ps gd) :
    Calls Try.prog 13 #[.pointer (some ⟨b, 0, none⟩), .string s, .int .i64 q] w
      fun e' w' => e' = .returned (.tuple #[.string (gP e f ps s.data.toList q), .int .i64 (gE e f ps s.data.toList q)]) ∧ Below w.heap.size w w' := by
  unfold gP gE
  by_cases hq : inIx f ps.length q
  · obtain ⟨m, rfl⟩ : ∃ m : Nat, q = m := ⟨q.toNat, by unfold inIx at hq; omega⟩
    rw [if_pos hq, if_pos hq, Int.toNat_natCast]
    unfold inIx at hq
    exact rget_in B b e f gd ps s m w he he2 hn hs hpb h (by omega) (by omega)
  · rw [if_neg hq, if_neg hq]
    have hst := rsteps_any B b e f gd ps q w he he2 hn h
    unfold stE at hst
    rw [if_neg hq] at hst
    have HST := Lib.hid hst
    clear hst
    go_enter Try.func13, Try.ntmps13
    go_wp2_with fail
    refine HST.out.mono ?_
    rintro e' w1 ⟨rfl, hb1⟩
    go_wp2_with fail
    go_ret2
    exact ⟨rfl, hb1⟩

end Go.Proofs.Ytmeefecpnfclpaa
