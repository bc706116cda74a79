/- souklaw12.IndexGets. -/
import Derived.Test.YtmeefecpnfclpaaRGet
import Derived.Test.YtmeefecpnfclpaaIdxO
namespace Go.Proofs.Ytmeefecpnfclpaa
open Go.RowKit Go.Shelf
attribute [local go_sem] Oper.semAt_some

set_option maxRecDepth 100000 in
set_option maxHeartbeats 4000000 in
theorem gets_any (s : ByteArray) (e q : Int) (o : ByteArray) (w : World) :
    Calls Try.prog 3 #[.string s, .int .i64 e, .int .i64 q, .string o] w fun e w' => e = .returned (.bool true) ∧ Below w.heap.size w w' := by
  by_cases h1 : 12000 < s.size
  · have d1 : decide ((12000 : Int) < (s.size : Int)) = true := decide_eq_true (by omega)
    go_enter Try.func3, Try.ntmps3
    go_wp2_with fail
    refine (works12 w).mono ?_
    rintro e' w1 ⟨rfl, hb1⟩
    go_wp2_with fail
    go_ret
    exact ⟨rfl, hb1⟩
  have d1 : decide ((12000 : Int) < (s.size : Int)) = false := decide_eq_false (by omega)
  by_cases h2 : 12000 < o.size
  · have d2 : decide ((12000 : Int) < (o.size : Int)) = true := decide_eq_true (by omega)
    go_enter Try.func3, Try.ntmps3
    go_wp2_with fail
    refine (works12 w).mono ?_
    rintro e' w1 ⟨rfl, hb1⟩
    go_wp2_with fail
    go_ret
    exact ⟨rfl, hb1⟩
  have d2 : decide ((12000 : Int) < (o.size : Int)) = false := decide_eq_false (by omega)
  have HB := Lib.hid (fun w' => build_any s e w' (by omega))
  have HC := Lib.hid (fun w' => rbuild_any s e w' (by omega))
  by_cases hbd : bdE e s.data.toList = 0
  case neg =>
    obtain ⟨E, hE⟩ : ∃ E, bdE e s.data.toList = E := ⟨_, rfl⟩
    rw [hE] at HB HC hbd
    have d3 : ((E : Int) != 0) = true := by rw [bne_iff_ne]; omega
    go_enter Try.func3, Try.ntmps3
    go_wp2_with fail
    refine (HB.out w).mono ?_
    rintro e' w1 (⟨_, rfl, hb1⟩ | ⟨h, _⟩)
    rotate_left
    · exact absurd h hbd
    have HB1 := Lib.hid hb1
    clear hb1
    go_wp2_with fail
    refine (HC.out w1).mono ?_
    rintro e' w2 (⟨_, rfl, hb2⟩ | ⟨h, _⟩)
    rotate_left
    · exact absurd h hbd
    have HB2 := Lib.hid (HB1.out.trans (hb2.mono HB1.out.size))
    clear hb2
    go_wp2_with fail
    refine (works12 w2).mono ?_
    rintro e' w3 ⟨rfl, hb3⟩
    have HB3 := Lib.hid (HB2.out.trans (hb3.mono HB2.out.size))
    clear hb3
    go_wp2_with fail
    go_ret
    exact ⟨rfl, HB3.out⟩
  have he1 : 0 < e.toNat ∧ e.toNat ≤ 64 := by
    unfold bdE at hbd
    by_cases h : e < 1 ∨ 64 < e
    · rw [if_pos h] at hbd; cases hbd
    · omega
  have hhd : hdE s.data.toList = 0 := by
    unfold bdE at hbd
    by_cases h : e < 1 ∨ 64 < e
    · rw [if_pos h] at hbd; cases hbd
    · rwa [if_neg h] at hbd
  rw [hbd] at HB HC
  obtain ⟨bF, bP, bM⟩ := ix_bounds s.data.toList (show s.size ≤ 1000000 by omega) hhd
  have bS : s.data.toList.length = s.size := rfl
  obtain ⟨F, hF⟩ : ∃ F, ixF s.data.toList = F := ⟨_, rfl⟩
  obtain ⟨ps, hps⟩ : ∃ ps, ixP s.data.toList = ps := ⟨_, rfl⟩
  obtain ⟨G, hG⟩ : ∃ G, ixG s.data.toList = G := ⟨_, rfl⟩
  obtain ⟨N, hN⟩ : ∃ N, e.toNat = N := ⟨_, rfl⟩
  rw [hF, hps, hG, hN] at HB HC
  rw [hF] at bF
  rw [hps] at bP bM
  rw [hN] at he1
  have HGE := Lib.hid (fun b (x : ByteArray) w' (hx : x.size ≤ 12000) h => get_any b N F G ps x q w' he1.1 (by omega) (by omega) (fun p hp => by have := bM p hp; omega) h)
  have HRE := Lib.hid (fun B b (x : ByteArray) w' (hx : x.size ≤ 12000) h => rget_any B b N F G ps x q w' he1.1 he1.2 (by omega) (by omega) (fun p hp => by have := bM p hp; omega) h)
  have HST := Lib.hid (fun b w' h => steps_any b N F G ps q w' he1.1 (by omega) h)
  have HRS := Lib.hid (fun B b w' h => rsteps_any B b N F G ps q w' he1.1 he1.2 (by omega) h)
  obtain ⟨T, hT⟩ : ∃ T, stE N F ps.length q = T := ⟨_, rfl⟩
  rw [hT] at HST HRS
  clear hF hps hG hN hhd bM hbd hT
  go_enter Try.func3, Try.ntmps3
  go_wp2_with fail
  refine (HB.out w).mono ?_
  rintro e' w1 (⟨h, _⟩ | ⟨_, b, rfl, hbb, hix, hb1⟩)
  · exact absurd rfl h
  have HI := Lib.hid hix
  have HB1 := Lib.hid hb1
  clear hb1 hix
  go_wp2_with fail
  refine (HC.out w1).mono ?_
  rintro e' w2 (⟨h, _⟩ | ⟨_, c, rfl, hrx, hb2⟩)
  · exact absurd rfl h
  have HR := Lib.hid hrx
  have HI2 := Lib.hid (HI.out.keep hb2)
  have HB2 := Lib.hid (HB1.out.trans (hb2.mono HB1.out.size))
  clear hb2 hrx HI
  go_wp2_with fail
  go_loopw [0, 13] (fun sv kv W => ∃ (x : ByteArray) (k : Nat), sv = .string x ∧ x.size ≤ 12000 ∧ kv = .int .i64 k ∧ k ≤ 2 ∧ Below w2.heap.size w2 W) (fun _ kv _ => 2 - (intOf kv).toNat)
  case atStart => exact ⟨s, 0, rfl, by omega, rfl, by omega, Below.refl _ _⟩
  case round =>
    obtain ⟨x, k, rfl, hx, rfl, hk, hbl⟩ := hrel
    have HBL := Lib.hid hbl
    clear hbl
    by_cases hk2 : k < 2
    · have hd : decide ((k : Int) < 2) = true := decide_eq_true (by omega)
      have hg1 := HGE.out b x wr hx (HI2.out.keep HBL.out)
      have hg2 := fun w' hw' => HRE.out w1.heap.size c x w' hx hw'
      obtain ⟨P, hP⟩ : ∃ P, gP N F ps x.data.toList q = P := ⟨_, rfl⟩
      obtain ⟨E, hE⟩ : ∃ E, gE N F ps x.data.toList q = E := ⟨_, rfl⟩
      rw [hP, hE] at hg1 hg2
      have C1 := Lib.hid hg1
      have C2 := Lib.hid hg2
      clear hg1 hg2 hP hE
      go_wp2_with fail
      refine C1.out.mono ?_
      rintro e' w3 ⟨rfl, hb3⟩
      have HB3 := Lib.hid (HBL.out.trans (hb3.mono HBL.out.size))
      clear hb3
      go_wp2_with fail
      refine (C2.out w3 (HR.out.keep HB3.out)).mono ?_
      rintro e' w4 ⟨rfl, hb4⟩
      have HB4 := Lib.hid (HB3.out.trans (hb4.mono HB3.out.size))
      clear hb4
      go_wp2_with fail
      refine (HST.out b w4 (HI2.out.keep HB4.out)).mono ?_
      rintro e' w5 ⟨rfl, hb5⟩
      have HB5 := Lib.hid (HB4.out.trans (hb5.mono HB4.out.size))
      clear hb5
      go_wp2_with fail
      refine (HRS.out w1.heap.size c w5 (HR.out.keep HB5.out)).mono ?_
      rintro e' w6 ⟨rfl, hb6⟩
      have HB6 := Lib.hid (HB5.out.trans (hb6.mono HB5.out.size))
      clear hb6
      go_wp2_with fail
      refine ⟨⟨o, k + 1, rfl, by omega, rfl, by omega, HB6.out⟩, ?_⟩
      simp [intOf]; omega
    · obtain rfl : k = 2 := by omega
      go_wp2_with fail
      refine (works12 wr).mono ?_
      rintro e' w3 ⟨rfl, hb3⟩
      have HB3 := Lib.hid (HB2.out.trans ((HBL.out.trans (hb3.mono HBL.out.size)).mono HB2.out.size))
      clear hb3
      go_wp2_with fail
      go_ret
      exact ⟨rfl, HB3.out⟩

end Go.Proofs.Ytmeefecpnfclpaa
