/- souklaw12.IndexOther. -/
import Derived.Test.YtmeefecpnfclpaaIdxE
import Derived.Test.YtmeefecpnfclpaaB3
namespace Go.Proofs.Ytmeefecpnfclpaa
open Go.RowKit Go.Shelf
attribute [local go_sem] Oper.semAt_some

/-- what Get tells stands there -/
theorem got_stands (e f : Nat) (ps : List Nat) (l : List UInt8) (q : Int) (h : gE e f ps l q = 0) :
    ∃ A m : Nat, q = m ∧ f ≤ m ∧ m < f + ps.length ∧ fE l A = 0 ∧ fQ l A = m ∧ gP e f ps l q = bs (sl l (A + 16) (fN l A)) := by
  unfold gE at h
  by_cases hx : inIx f ps.length q
  · rw [if_pos hx] at h
    have hx' := hx
    unfold inIx at hx'
    obtain ⟨m, rfl⟩ : ∃ m : Nat, q = m := ⟨q.toNat, by omega⟩
    rw [Int.toNat_natCast] at h
    obtain ⟨g1, g2⟩ := get_stands l _ _ _ h
    refine ⟨_, m, rfl, by omega, by omega, g1, ?_, ?_⟩
    · rw [g2]
      have hd : (m - f) / e * e + (m - f) % e = m - f := by rw [Nat.mul_comm]; exact Nat.div_add_mod _ e
      omega
    · unfold gP getP
      rw [if_pos hx, Int.toNat_natCast, if_pos h]
  · rw [if_neg hx] at h; cases h
theorem got_none (e f : Nat) (ps : List Nat) (l : List UInt8) (q : Int) (h : gE e f ps l q ≠ 0) : gP e f ps l q = ⟨#[]⟩ := by
  unfold gE at h
  unfold gP
  by_cases hx : inIx f ps.length q
  · rw [if_pos hx] at h ⊢
    unfold getP
    rw [if_neg h]; rfl
  · rw [if_neg hx]

theorem scanP_le (l : List UInt8) : ∀ (k a : Nat) (f : Int), ∀ p ∈ scanP l k a f, p ≤ l.length := by
  intro k
  induction k with
  | zero => intro a f p hp; cases hp
  | succ k ih =>
    intro a f p hp
    unfold scanP at hp
    by_cases h : fGood l a f
    · rw [if_pos h] at hp
      rcases List.mem_cons.1 hp with rfl | hp
      · have := (fE_zero h.1).1; omega
      · exact ih _ _ p hp
    · rw [if_neg h] at hp; cases hp
theorem ix_bounds (l : List UInt8) (hl : l.length ≤ 1000000) (h : hdE l = 0) : ixF l ≤ 1048576 ∧ (ixP l).length * 16 ≤ l.length ∧ ∀ p ∈ ixP l, p ≤ l.length := by
  obtain ⟨h16, _, _, hF⟩ := hd_ok h
  have := scanP_len l (l.length + 1) 16 (hdF l) h16
  unfold ixP ixF scanL
  rw [if_neg (by omega)]
  refine ⟨hF, ?_, scanP_le l _ _ _⟩
  show (scanP l (l.length + 1) 16 (hdF l)).length * 16 ≤ _
  omega

set_option maxRecDepth 100000 in
set_option maxHeartbeats 4000000 in
theorem other_any (s : ByteArray) (e q : Int) (o : ByteArray) (w : World) :
    Calls Try.prog 5 #[.string s, .int .i64 e, .int .i64 q, .string o] w fun e w' => e = .returned (.bool true) ∧ Below w.heap.size w w' := by
  by_cases h1 : 12000 < s.size
  · have d1 : decide ((12000 : Int) < (s.size : Int)) = true := decide_eq_true (by omega)
    go_enter Try.func5, Try.ntmps5
    go_wp2_with fail
    refine (works12 w).mono ?_
    rintro e' w1 ⟨rfl, hb1⟩
    go_wp2_with fail
    refine (works12 w1).mono ?_
    rintro e' w2 ⟨rfl, hb2⟩
    go_wp2_with fail
    go_ret
    exact ⟨rfl, hb1.trans (hb2.mono hb1.size)⟩
  have d1 : decide ((12000 : Int) < (s.size : Int)) = false := decide_eq_false (by omega)
  by_cases h2 : 12000 < o.size
  · have d2 : decide ((12000 : Int) < (o.size : Int)) = true := decide_eq_true (by omega)
    go_enter Try.func5, Try.ntmps5
    go_wp2_with fail
    refine (works12 w).mono ?_
    rintro e' w1 ⟨rfl, hb1⟩
    go_wp2_with fail
    refine (works12 w1).mono ?_
    rintro e' w2 ⟨rfl, hb2⟩
    go_wp2_with fail
    go_ret
    exact ⟨rfl, hb1.trans (hb2.mono hb1.size)⟩
  have d2 : decide ((12000 : Int) < (o.size : Int)) = false := decide_eq_false (by omega)
  have HB := Lib.hid (fun w' => build_any s e w' (by omega))
  by_cases hbd : bdE e s.data.toList = 0
  case neg =>
    obtain ⟨E, hE⟩ : ∃ E, bdE e s.data.toList = E := ⟨_, rfl⟩
    rw [hE] at HB hbd
    have d3 : ((E : Int) != 0) = true := by rw [bne_iff_ne]; omega
    go_enter Try.func5, Try.ntmps5
    go_wp2_with fail
    refine (works12 w).mono ?_
    rintro e' w1 ⟨rfl, hb1⟩
    have HB1 := Lib.hid hb1
    clear hb1
    go_wp2_with fail
    refine (HB.out w1).mono ?_
    rintro e' w2 (⟨_, rfl, hb2⟩ | ⟨h, _⟩)
    rotate_left
    · exact absurd h hbd
    have HB2 := Lib.hid (HB1.out.trans (hb2.mono HB1.out.size))
    clear hb2
    go_wp2_with fail
    go_ret
    exact ⟨rfl, HB2.out⟩
  have he1 : 0 < e.toNat := by
    unfold bdE at hbd
    by_cases h : e < 1 ∨ 64 < e
    · rw [if_pos h] at hbd; cases hbd
    · omega
  have hhd : hdE s.data.toList = 0 := by
    unfold bdE at hbd
    by_cases h : e < 1 ∨ 64 < e
    · rw [if_pos h] at hbd; cases hbd
    · rwa [if_neg h] at hbd
  rw [hbd] at HB
  obtain ⟨bF, bP, bM⟩ := ix_bounds s.data.toList (show s.size ≤ 1000000 by omega) hhd
  have bS : s.data.toList.length = s.size := rfl
  obtain ⟨F, hF⟩ : ∃ F, ixF s.data.toList = F := ⟨_, rfl⟩
  obtain ⟨ps, hps⟩ : ∃ ps, ixP s.data.toList = ps := ⟨_, rfl⟩
  obtain ⟨G, hG⟩ : ∃ G, ixG s.data.toList = G := ⟨_, rfl⟩
  obtain ⟨N, hN⟩ : ∃ N, e.toNat = N := ⟨_, rfl⟩
  rw [hF, hps, hG, hN] at HB
  rw [hF] at bF
  rw [hps] at bP bM
  rw [hN] at he1
  have hge := fun b w' h => get_any b N F G ps o q w' he1 (by omega) (by omega) (fun p hp => by have := bM p hp; omega) h
  clear hF hps hG hN hhd bM hbd
  by_cases hg : gE N F ps o.data.toList q = 0
  case neg =>
    have hp := got_none N F ps o.data.toList q hg
    obtain ⟨E, hE⟩ : ∃ E, gE N F ps o.data.toList q = E := ⟨_, rfl⟩
    rw [hp, hE] at hge
    rw [hE] at hg
    have d3 : ((E : Int) != 0) = true := by rw [bne_iff_ne]; omega
    have HG := Lib.hid hge
    clear hge hp hE
    go_enter Try.func5, Try.ntmps5
    go_wp2_with fail
    refine (works12 w).mono ?_
    rintro e' w1 ⟨rfl, hb1⟩
    have HB1 := Lib.hid hb1
    clear hb1
    go_wp2_with fail
    refine (HB.out w1).mono ?_
    rintro e' w2 (⟨h, _⟩ | ⟨_, b, rfl, hbb, hix, hb2⟩)
    · exact absurd rfl h
    have HI := Lib.hid hix
    have HB2 := Lib.hid (HB1.out.trans (hb2.mono HB1.out.size))
    clear hb2 hix
    go_wp2_with fail
    refine (HG.out b w2 HI.out).mono ?_
    rintro e' w3 ⟨rfl, hb3⟩
    have HB3 := Lib.hid (HB2.out.trans (hb3.mono HB2.out.size))
    clear hb3
    go_wp2_with fail
    go_ret
    exact ⟨rfl, HB3.out⟩
  obtain ⟨A, m, rfl, hm1, hm2, hA0, hAq, hAp⟩ := got_stands N F ps o.data.toList q hg
  obtain ⟨g1, g2, g3, g4⟩ := fE_zero hA0
  obtain ⟨b1, b2⟩ := frame_back o.data.toList A hA0
  have hq : fQ o.data.toList A < 1048576 := g2.2
  have hn1 := g2.1.1
  have hn2 := g2.1.2
  unfold fNext at g3
  have bO : o.data.toList.length = o.size := rfl
  rw [hAp, hg] at hge
  rw [hAq] at b1 hq
  obtain ⟨n, en⟩ : ∃ n, fN o.data.toList A = n := ⟨_, rfl⟩
  rw [en] at hge b1 b2 g3 hn1 hn2
  obtain ⟨y, ey⟩ : ∃ y, bs (sl o.data.toList (A + 16) n) = y := ⟨_, rfl⟩
  rw [ey] at hge
  have hy : y.data.toList = sl o.data.toList (A + 16) n := by rw [← ey, bs_data]
  have hyn : y.size = n := by rw [← len_data, hy]; exact b2
  have hmE : mkE (m : Int) y = 0 := by unfold mkE; rw [if_neg (by omega), if_neg (by omega), if_neg (by omega)]
  have hmS : mkS (m : Int) y = bs (sl o.data.toList A (16 + n)) := by unfold mkS; rw [if_pos hmE, Int.toNat_natCast, hy, b1]
  have hk := fun w => make_any m y w (by omega)
  rw [hmE, hmS] at hk
  obtain ⟨t, et⟩ : ∃ t, bs (sl o.data.toList A (16 + n)) = t := ⟨_, rfl⟩
  rw [et] at hk
  have ht : t.data.toList = sl o.data.toList A (16 + n) := by rw [← et, bs_data]
  have hts : t.size = 16 + n := by rw [← len_data, ht]; exact sl_length _ _ _ (by omega)
  have hx : o.extract A (A + t.size) = t := by
    rw [hts]
    apply ByteArray.ext
    apply Array.toList_inj.1
    rw [sl_extract, ht]
  have HX := Lib.hid hx
  have HG := Lib.hid hge
  have HK := Lib.hid hk
  have d5 : decide ((m : Int) < (F : Int)) = false := decide_eq_false (by omega)
  have d6 : decide (((F + ps.length : Nat) : Int) ≤ (m : Int)) = false := decide_eq_false (by omega)
  have hAt : A + t.size ≤ o.size := by omega
  clear hge hk hx hmE hmS ht et hy ey b1 b2 g1 g2 g3 g4 hA0 hAq hAp hg en hq hn1 hn2 hyn hts
  go_enter Try.func5, Try.ntmps5
  go_wp2_with fail
  refine (works12 w).mono ?_
  rintro e' w1 ⟨rfl, hb1⟩
  have HB1 := Lib.hid hb1
  clear hb1
  go_wp2_with fail
  refine (HB.out w1).mono ?_
  rintro e' w2 (⟨h, _⟩ | ⟨_, b, rfl, hbb, hix, hb2⟩)
  · exact absurd rfl h
  have HI := Lib.hid hix
  have HB2 := Lib.hid (HB1.out.trans (hb2.mono HB1.out.size))
  clear hb2 hix
  go_wp2_with fail
  refine (HG.out b w2 HI.out).mono ?_
  rintro e' w3 ⟨rfl, hb3⟩
  have HI3 := Lib.hid (HI.out.keep hb3)
  have HB3 := Lib.hid (HB2.out.trans (hb3.mono HB2.out.size))
  clear hb3
  go_wp2_with fail
  refine (HK.out w3).mono ?_
  rintro e' w4 ⟨rfl, hb4⟩
  have HI4 := Lib.hid (HI3.out.keep hb4)
  have HB4 := Lib.hid (HB3.out.trans (hb4.mono HB3.out.size))
  clear hb4
  go_wp2_with fail
  refine (ixFirst b N F G ps w4 HI4.out).mono ?_
  rintro e' w5 ⟨rfl, rfl⟩
  go_wp2_with fail
  refine (ixNext b N F G ps w4 HI4.out).mono ?_
  rintro e' w5 ⟨rfl, rfl⟩
  go_wp2_with fail
  go_loop [15] (fun v => ∃ c : Nat, c ≤ A ∧ v = .int .i64 c) (fun v => A - (intOf v).toNat)
  case atStart => exact ⟨0, Nat.zero_le _, rfl⟩
  case round =>
    obtain ⟨c, hc, rfl⟩ := hrel
    obtain ⟨M, hM⟩ : ∃ M, c + t.size = M := ⟨_, rfl⟩
    have x2 : IntKind.i64.wrap ((c : Int) + (t.size : Int)) = (M : Int) := by rw [IntWalk.i64_in _ (by omega)]; omega
    have x3 : (0 : Int) ≤ (c : Int) := by omega
    have x4 : (c : Int) ≤ (M : Int) := by omega
    have x5 : (M : Int) ≤ (o.size : Int) := by omega
    by_cases hx : (o.extract c M).toList = t.toList
    · go_wp2_with fail
      go_ret
      exact ⟨rfl, HB4.out⟩
    · have hne : c ≠ A := by
        rintro rfl
        apply hx
        rw [← hM, HX.out]
      go_wp2_with fail
      · go_ret
        exact ⟨rfl, HB4.out⟩
      refine ⟨⟨c + 1, by omega, rfl⟩, ?_⟩
      simp [intOf]; omega

end Go.Proofs.Ytmeefecpnfclpaa
