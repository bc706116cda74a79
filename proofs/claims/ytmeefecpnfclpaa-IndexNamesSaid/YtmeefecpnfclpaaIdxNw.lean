/- souklaw12.IndexNames: the walk. -/
import Derived.Test.YtmeefecpnfclpaaIdxNm
import Derived.Test.YtmeefecpnfclpaaIdxNl
import Derived.Test.YtmeefecpnfclpaaIdxU
namespace Go.Proofs.Ytmeefecpnfclpaa
open Go.RowKit Go.Shelf
attribute [local go_sem] Oper.semAt_some

theorem build_no (s : ByteArray) (L : List UInt8) (e : Int) (E : Nat) (hs : s.size ≤ 1000000) (hL : s.data.toList = L) (hE : bdE e L = E) (h0 : E ≠ 0) (w : World) :
    Calls Try.prog 10 #[.string s, .int .i64 e] w fun e' w' => e' = .returned (.tuple #[.pointer none, .int .i64 E]) ∧ Below w.heap.size w w' := by
  refine (build_any s e w hs).mono ?_
  rintro e' w' (⟨_, h, hb⟩ | ⟨h, _⟩)
  · rw [hL, hE] at h; exact ⟨h, hb⟩
  · rw [hL, hE] at h; exact absurd h h0
theorem build_yes (s : ByteArray) (L : List UInt8) (e F G : Nat) (ps : List Nat) (hs : s.size ≤ 1000000) (hL : s.data.toList = L) (hE : bdE e L = 0) (hF : ixF L = F) (hP : ixP L = ps) (hG : ixG L = G) (w : World) :
    Calls Try.prog 10 #[.string s, .int .i64 e] w fun e' w' => ∃ b, e' = .returned (.tuple #[.pointer (some ⟨b, 0, none⟩), .int .i64 0]) ∧ w.heap.size ≤ b ∧ Ixr w' b e F ps G ∧ Below w.heap.size w w' := by
  refine (build_any s e w hs).mono ?_
  rintro e' w' (⟨h, _⟩ | ⟨_, b, h, hb, hi, hw⟩)
  · rw [hL] at h; exact absurd hE h
  · rw [hL, hF, hP, hG, Int.toNat_natCast] at hi; exact ⟨b, h, hb, hi, hw⟩
theorem get_to (e f gd : Nat) (ps : List Nat) (s : ByteArray) (L : List UInt8) (q : Int) (E : Nat) (he : 0 < e) (hn : f + ps.length ≤ 1000000000) (hs : s.size ≤ 1000000) (hpb : ∀ p ∈ ps, p ≤ 1000000000) (hL : s.data.toList = L) (hE : gE e f ps L q = E) (b : Nat) (w : World) (h : Ixr w b e f ps gd) :
    Calls Try.prog 12 #[.pointer (some ⟨b, 0, none⟩), .string s, .int .i64 q] w
      fun e' w' => e' = .returned (.tuple #[.string (gP e f ps L q), .int .i64 E]) ∧ Below w.heap.size w w' := by
  have := get_any b e f gd ps s q w he hn hs hpb h
  rw [hL, hE] at this
  exact this
theorem marks_to (e f gd C : Nat) (ps : List Nat) (he : 0 < e) (hn : ps.length ≤ 1000000000) (hC : cntM e ps.length = C) (b : Nat) (w : World) (h : Ixr w b e f ps gd) :
    Calls Try.prog 18 #[.pointer (some ⟨b, 0, none⟩)] w fun e' w' => ∃ oa cap, e' = .returned (.slice oa C cap) ∧ Below w.heap.size w w' := by
  refine (marks_any b e f gd ps w he hn h).mono ?_
  rintro e' w' ⟨oa, cap, rfl, _, _, hb⟩
  rw [hC]
  exact ⟨oa, cap, rfl, hb⟩
theorem next_to (e f gd : Nat) (ps : List Nat) (N : Int) (hN : ((f + ps.length : Nat) : Int) = N) (b : Nat) (w : World) (h : Ixr w b e f ps gd) :
    Calls Try.prog 21 #[.pointer (some ⟨b, 0, none⟩)] w fun e' w' => e' = .returned (.int .i64 N) ∧ w = w' := by
  rw [← hN]; exact ixNext b e f gd ps w h
theorem add_yes (e f gd : Nat) (ps : List Nat) (n : Nat) (he : 0 < e) (hg : gd ≤ 1000000000) (hE : addE (f + ps.length) n = 0) (b : Nat) (w : World) (h : Ixr w b e f ps gd) :
    Calls Try.prog 24 #[.pointer (some ⟨b, 0, none⟩), .int .i64 n] w fun e' w' => e' = .returned (.tuple #[.int .i64 gd, .int .i64 0]) ∧ Ixr w' b e f (ps ++ [gd]) (gd + 16 + n) ∧ KeepX (fun i => i = b) w w' := by
  refine (add_any b e f gd ps n w he hg h).mono ?_
  rintro e' w' (⟨_, rfl, h1, h2⟩ | ⟨h1, _⟩)
  · exact ⟨rfl, h1, h2⟩
  · exact absurd hE h1
theorem add_no (e f gd : Nat) (ps : List Nat) (n : Int) (E : Nat) (he : 0 < e) (hg : gd ≤ 1000000000) (hE : addE (f + ps.length) n = E) (h0 : E ≠ 0) (b : Nat) (w : World) (h : Ixr w b e f ps gd) :
    Calls Try.prog 24 #[.pointer (some ⟨b, 0, none⟩), .int .i64 n] w fun e' w' => e' = .returned (.tuple #[.int .i64 0, .int .i64 E]) ∧ w = w' := by
  refine (add_any b e f gd ps n w he hg h).mono ?_
  rintro e' w' (⟨h1, _⟩ | ⟨_, rfl, h2⟩)
  · rw [hE] at h1; exact absurd h1 h0
  · rw [hE]; exact ⟨rfl, h2⟩
theorem z4_in (w : World) : StrsIn (w.alloc (.cells #[.string ⟨#[97]⟩, .string ⟨#[98]⟩, .string ⟨#[99]⟩, .string ⟨#[100]⟩] 9)) (some ⟨w.heap.size, 0, none⟩) 4 4 nmZ := by
  refine ⟨rfl, Nat.le_refl _, by decide, by decide, .inr ⟨_, _, rfl, by simp, fun j hj => ?_⟩⟩
  rw [cell_of_row _ _ _ _ _ _ (heap_alloc_new _ _)]
  match j, hj with
  | 0, _ => rfl
  | 1, _ => rfl
  | 2, _ => rfl
  | 3, _ => rfl

set_option maxRecDepth 100000 in
set_option maxHeartbeats 8000000 in
theorem names12 (w : World) : Calls Try.prog 8 #[] w fun e w' => e = .returned (.bool true) ∧ Below w.heap.size w w' := by
  have hd : nmS.data.toList = nmL := bs_data _
  have hsz := nm_size
  have hj0 := fun W W' (h : StrsIn W' (some ⟨W, 0, none⟩) 4 4 nmZ) => join_any 0 nmZ W' h
  have hj1 := fun W W' (h : StrsIn W' (some ⟨W, 0, none⟩) 4 4 nmZ) => join_any 1 nmZ W' h
  rw [nm_jn0] at hj0
  have hj0' := fun W W' h => (show Calls Try.prog 17 #[.int .i64 0, .slice (some ⟨W, 0, none⟩) 4 4] W' fun e w' => e = .returned (.tuple #[.string nmS, .int .i64 0]) ∧ Below W'.heap.size W' w' from hj0 W W' h)
  rw [nm_jn1] at hj1
  have hj1' := fun W W' h => (show Calls Try.prog 17 #[.int .i64 1, .slice (some ⟨W, 0, none⟩) 4 4] W' fun e w' => e = .returned (.tuple #[.string nmO, .int .i64 0]) ∧ Below W'.heap.size W' w' from hj1 W W' h)
  have e83 : (nmS.extract 0 83).data.toList = nmL.take 83 := by rw [← hd]; simp
  have e16 : (nmS.extract 0 16).data.toList = nmL.take 16 := by rw [← hd]; simp
  have e40 : (nmS.extract 0 40).data.toList = nmL.take 40 := by rw [← hd]; simp
  have eU : ((⟨#[115, 101, 103, 50]⟩ : ByteArray) ++ nmS.extract 4 84).data.toList = [115, 101, 103, 50] ++ nmL.drop 4 := by rw [← hd]; (simp; exact List.take_of_length_le (by rw [List.length_drop, hd, nm_len]; exact Nat.le_refl _))
  have hUs : ((⟨#[115, 101, 103, 50]⟩ : ByteArray) ++ nmS.extract 4 84).size ≤ 1000000 := by rw [ByteArray.size_append, ByteArray.size_extract]; show 4 + _ ≤ _; omega
  have xs : ∀ k, (nmS.extract 0 k).size ≤ 1000000 := fun k => by rw [ByteArray.size_extract]; omega
  have K0 := Lib.hid (build_no nmS nmL 0 1 (by omega) hd (nm_arg _ _ (by omega)) (by omega))
  have K1 := Lib.hid (build_no nmS nmL 65 1 (by omega) hd (nm_arg _ _ (by omega)) (by omega))
  have K2 := Lib.hid (build_no ⟨#[]⟩ [] 3 8 (by decide) rfl nm_empty (by omega))
  have K3 := Lib.hid (build_no _ _ 3 4 hUs eU (nm_magic _ (by rw [List.length_drop, nm_len]; omega)) (by omega))
  have K4 := Lib.hid (build_yes nmS nmL 1 0 84 _ (by omega) hd (nm_bd 1 (by omega) (by omega)) nm_F nm_P nm_G)
  have K5 := Lib.hid (build_yes nmS nmL 64 0 84 _ (by omega) hd (nm_bd 64 (by omega) (by omega)) nm_F nm_P nm_G)
  have K6 := Lib.hid (build_yes _ _ 2 0 67 _ (xs 83) e83 (nm_cutbd 83 (by omega)) (nm_cutF 83 (by omega)) nm_torn.1 nm_torn.2)
  have K7 := Lib.hid (build_yes _ _ 2 0 16 _ (xs 16) e16 (nm_cutbd 16 (by omega)) (nm_cutF 16 (by omega)) nm_bare.1 nm_bare.2)
  have G0 := Lib.hid (get_to 2 0 16 [] nmS nmL 0 5 (by omega) (by decide) (by omega) (by simp) hd (nm_none _))
  have g1 := get_to 2 0 33 [16] nmS nmL 0 0 (by omega) (by decide) (by omega) (by decide) hd nm_at0.1
  rw [nm_at0.2] at g1
  have G1 := Lib.hid g1
  have G2 := Lib.hid (get_to 64 0 84 [16, 33, 50, 67] _ _ 3 8 (by omega) (by decide) (xs 40) (by decide) e40 nm_short.1)
  have G3 := Lib.hid (get_to 1 0 84 [16, 33, 50, 67] _ _ 3 8 (by omega) (by decide) (xs 40) (by decide) e40 nm_short.2)
  have G4 := Lib.hid (get_to 1 0 84 [16, 33, 50, 67] nmS nmL (-1) 5 (by omega) (by decide) (by omega) (by decide) hd (nm_neg _))
  have G5 := Lib.hid (get_to 64 0 84 [16, 33, 50, 67] nmO (jnL 1 (paysL nmZ)) 2 4 (by omega) (by decide) (by unfold nmO; rw [size_bs, (seg_scan nm_jn1).2.1]; decide) (by decide) (bs_data _) nm_other)
  have K8 := Lib.hid (build_yes (bs (hdrL 1048575)) (hdrL 1048575) 5 1048575 16 _ (by rw [size_bs, hdr_len]; omega) (bs_data _) nm_last.1 nm_last.2.1 nm_last.2.2.1 nm_last.2.2.2)
  have J0 := Lib.hid hj0'
  have J1 := Lib.hid hj1'
  clear hj0 hj1 hj0' hj1' e83 e16 e40 eU hUs xs g1 hd
  generalize nmS = S at *
  have y1 : ((84 : Int) - 1) = 83 := rfl
  go_enter Try.func8, Try.ntmps8
  go_wp2_with fail
  refine (works12 w).mono ?_
  rintro e' w1 ⟨rfl, hb⟩
  have B_w1 := Lib.hid (hb)
  clear hb
  go_wp2_with fail
  refine (J0.out _ _ (z4_in w1)).mono ?_
  rintro e' w2 ⟨rfl, hb⟩
  replace hb := ((Below.refl w1.heap.size w1).alloc (Nat.le_refl _) _).trans (hb.mono (by simp))
  have B_w2 := Lib.hid (B_w1.out.trans (hb.mono B_w1.out.size))
  clear hb
  go_wp2_with fail
  refine (K0.out w2).mono ?_
  rintro e' w3 ⟨rfl, hb⟩
  have B_w3 := Lib.hid (B_w2.out.trans (hb.mono B_w2.out.size))
  clear hb
  go_wp2_with fail
  refine (K1.out w3).mono ?_
  rintro e' w4 ⟨rfl, hb⟩
  have B_w4 := Lib.hid (B_w3.out.trans (hb.mono B_w3.out.size))
  clear hb
  go_wp2_with fail
  refine (K2.out w4).mono ?_
  rintro e' w5 ⟨rfl, hb⟩
  have B_w5 := Lib.hid (B_w4.out.trans (hb.mono B_w4.out.size))
  clear hb
  go_wp2_with fail
  refine (K3.out w5).mono ?_
  rintro e' w6 ⟨rfl, hb⟩
  have B_w6 := Lib.hid (B_w5.out.trans (hb.mono B_w5.out.size))
  clear hb
  go_wp2_with fail
  refine (K4.out w6).mono ?_
  rintro e' w7 ⟨one, rfl, hle, hi, hb⟩
  have lb_one : w.heap.size ≤ one := by have := B_w6.out.size; omega
  have B_w7 := Lib.hid (B_w6.out.trans (hb.mono B_w6.out.size))
  have Ione_w7 := Lib.hid hi
  have Lone := Lib.hid hle
  clear hb hi hle
  go_wp2_with fail
  refine (K5.out w7).mono ?_
  rintro e' w8 ⟨all, rfl, hle, hi, hb⟩
  have ne_one_all : one ≠ all := by have := Ione_w7.out.lt; omega
  have lb_all : w.heap.size ≤ all := by have := B_w7.out.size; omega
  have B_w8 := Lib.hid (B_w7.out.trans (hb.mono B_w7.out.size))
  have Ione_w8 := Lib.hid (Ione_w7.out.keep hb)
  have Iall_w8 := Lib.hid hi
  have Lall := Lib.hid hle
  clear hb hi hle
  go_wp2_with fail
  refine (K6.out w8).mono ?_
  rintro e' w9 ⟨torn, rfl, hle, hi, hb⟩
  have ne_one_torn : one ≠ torn := by have := Ione_w8.out.lt; omega
  have ne_all_torn : all ≠ torn := by have := Iall_w8.out.lt; omega
  have lb_torn : w.heap.size ≤ torn := by have := B_w8.out.size; omega
  have B_w9 := Lib.hid (B_w8.out.trans (hb.mono B_w8.out.size))
  have Ione_w9 := Lib.hid (Ione_w8.out.keep hb)
  have Iall_w9 := Lib.hid (Iall_w8.out.keep hb)
  have Itorn_w9 := Lib.hid hi
  have Ltorn := Lib.hid hle
  clear hb hi hle
  go_wp2_with fail
  refine (K7.out w9).mono ?_
  rintro e' w10 ⟨bare, rfl, hle, hi, hb⟩
  have ne_one_bare : one ≠ bare := by have := Ione_w9.out.lt; omega
  have ne_all_bare : all ≠ bare := by have := Iall_w9.out.lt; omega
  have ne_torn_bare : torn ≠ bare := by have := Itorn_w9.out.lt; omega
  have lb_bare : w.heap.size ≤ bare := by have := B_w9.out.size; omega
  have B_w10 := Lib.hid (B_w9.out.trans (hb.mono B_w9.out.size))
  have Ione_w10 := Lib.hid (Ione_w9.out.keep hb)
  have Iall_w10 := Lib.hid (Iall_w9.out.keep hb)
  have Itorn_w10 := Lib.hid (Itorn_w9.out.keep hb)
  have Ibare_w10 := Lib.hid hi
  have Lbare := Lib.hid hle
  clear hb hi hle
  go_wp2_with fail
  refine (marks_to 1 0 84 4 [16, 33, 50, 67] (by omega) (by decide) rfl one w10 Ione_w10.out).mono ?_
  rintro e' w11 ⟨oa1, cap1, rfl, hb⟩
  have B_w11 := Lib.hid (B_w10.out.trans (hb.mono B_w10.out.size))
  have Ione_w11 := Lib.hid (Ione_w10.out.keep hb)
  have Iall_w11 := Lib.hid (Iall_w10.out.keep hb)
  have Itorn_w11 := Lib.hid (Itorn_w10.out.keep hb)
  have Ibare_w11 := Lib.hid (Ibare_w10.out.keep hb)
  clear hb
  go_wp2_with fail
  refine (marks_to 64 0 84 1 [16, 33, 50, 67] (by omega) (by decide) rfl all w11 Iall_w11.out).mono ?_
  rintro e' w12 ⟨oa2, cap2, rfl, hb⟩
  have B_w12 := Lib.hid (B_w11.out.trans (hb.mono B_w11.out.size))
  have Ione_w12 := Lib.hid (Ione_w11.out.keep hb)
  have Iall_w12 := Lib.hid (Iall_w11.out.keep hb)
  have Itorn_w12 := Lib.hid (Itorn_w11.out.keep hb)
  have Ibare_w12 := Lib.hid (Ibare_w11.out.keep hb)
  clear hb
  go_wp2_with fail
  refine (next_to 2 0 67 [16, 33, 50] 3 rfl torn w12 Itorn_w12.out).mono ?_
  rintro e' wx ⟨rfl, rfl⟩
  go_wp2_with fail
  refine (ixGood torn 2 0 67 [16, 33, 50] w12 Itorn_w12.out).mono ?_
  rintro e' wx ⟨rfl, rfl⟩
  go_wp2_with fail
  refine (next_to 2 0 16 [] 0 rfl bare w12 Ibare_w12.out).mono ?_
  rintro e' wx ⟨rfl, rfl⟩
  go_wp2_with fail
  refine (ixGood bare 2 0 16 [] w12 Ibare_w12.out).mono ?_
  rintro e' wx ⟨rfl, rfl⟩
  go_wp2_with fail
  refine (marks_to 2 0 16 0 [] (by omega) (by decide) rfl bare w12 Ibare_w12.out).mono ?_
  rintro e' w13 ⟨oa3, cap3, rfl, hb⟩
  have B_w13 := Lib.hid (B_w12.out.trans (hb.mono B_w12.out.size))
  have Ione_w13 := Lib.hid (Ione_w12.out.keep hb)
  have Iall_w13 := Lib.hid (Iall_w12.out.keep hb)
  have Itorn_w13 := Lib.hid (Itorn_w12.out.keep hb)
  have Ibare_w13 := Lib.hid (Ibare_w12.out.keep hb)
  clear hb
  go_wp2_with fail
  refine (G0.out bare w13 Ibare_w13.out).mono ?_
  rintro e' w14 ⟨rfl, hb⟩
  have B_w14 := Lib.hid (B_w13.out.trans (hb.mono B_w13.out.size))
  have Ione_w14 := Lib.hid (Ione_w13.out.keep hb)
  have Iall_w14 := Lib.hid (Iall_w13.out.keep hb)
  have Itorn_w14 := Lib.hid (Itorn_w13.out.keep hb)
  have Ibare_w14 := Lib.hid (Ibare_w13.out.keep hb)
  clear hb
  go_wp2_with fail
  refine (add_yes 2 0 16 [] 1 (by omega) (by omega) (by decide) bare w14 Ibare_w14.out).mono ?_
  rintro e' w15 ⟨rfl, hi, hk⟩
  have Ione_w15 := Lib.hid (ixr_keepX Ione_w14.out Ibare_w14.out ne_one_bare hk)
  have Iall_w15 := Lib.hid (ixr_keepX Iall_w14.out Ibare_w14.out ne_all_bare hk)
  have Itorn_w15 := Lib.hid (ixr_keepX Itorn_w14.out Ibare_w14.out ne_torn_bare hk)
  have Ibare_w15 := Lib.hid hi
  have B_w15 := Lib.hid (keepX_below B_w14.out lb_bare (Nat.le_refl _) hk)
  clear hi hk
  go_wp2_with fail
  refine (G1.out bare w15 Ibare_w15.out).mono ?_
  rintro e' w16 ⟨rfl, hb⟩
  have B_w16 := Lib.hid (B_w15.out.trans (hb.mono B_w15.out.size))
  have Ione_w16 := Lib.hid (Ione_w15.out.keep hb)
  have Iall_w16 := Lib.hid (Iall_w15.out.keep hb)
  have Itorn_w16 := Lib.hid (Itorn_w15.out.keep hb)
  have Ibare_w16 := Lib.hid (Ibare_w15.out.keep hb)
  clear hb
  go_wp2_with fail
  refine (add_no 2 0 33 [16] 0 4 (by omega) (by omega) (by decide) (by omega) bare w16 Ibare_w16.out).mono ?_
  rintro e' wx ⟨rfl, rfl⟩
  go_wp2_with fail
  refine (add_no 2 0 33 [16] 4097 4 (by omega) (by omega) (by decide) (by omega) bare w16 Ibare_w16.out).mono ?_
  rintro e' wx ⟨rfl, rfl⟩
  go_wp2_with fail
  refine (next_to 2 0 33 [16] 1 rfl bare w16 Ibare_w16.out).mono ?_
  rintro e' wx ⟨rfl, rfl⟩
  go_wp2_with fail
  refine (G2.out all w16 Iall_w16.out).mono ?_
  rintro e' w17 ⟨rfl, hb⟩
  have B_w17 := Lib.hid (B_w16.out.trans (hb.mono B_w16.out.size))
  have Ione_w17 := Lib.hid (Ione_w16.out.keep hb)
  have Iall_w17 := Lib.hid (Iall_w16.out.keep hb)
  have Itorn_w17 := Lib.hid (Itorn_w16.out.keep hb)
  have Ibare_w17 := Lib.hid (Ibare_w16.out.keep hb)
  clear hb
  go_wp2_with fail
  refine (G3.out one w17 Ione_w17.out).mono ?_
  rintro e' w18 ⟨rfl, hb⟩
  have B_w18 := Lib.hid (B_w17.out.trans (hb.mono B_w17.out.size))
  have Ione_w18 := Lib.hid (Ione_w17.out.keep hb)
  have Iall_w18 := Lib.hid (Iall_w17.out.keep hb)
  have Itorn_w18 := Lib.hid (Itorn_w17.out.keep hb)
  have Ibare_w18 := Lib.hid (Ibare_w17.out.keep hb)
  clear hb
  go_wp2_with fail
  refine (G4.out one w18 Ione_w18.out).mono ?_
  rintro e' w19 ⟨rfl, hb⟩
  have B_w19 := Lib.hid (B_w18.out.trans (hb.mono B_w18.out.size))
  have Ione_w19 := Lib.hid (Ione_w18.out.keep hb)
  have Iall_w19 := Lib.hid (Iall_w18.out.keep hb)
  have Itorn_w19 := Lib.hid (Itorn_w18.out.keep hb)
  have Ibare_w19 := Lib.hid (Ibare_w18.out.keep hb)
  clear hb
  go_wp2_with fail
  refine (J1.out _ _ (z4_in w19)).mono ?_
  rintro e' w20 ⟨rfl, hb⟩
  replace hb := ((Below.refl w19.heap.size w19).alloc (Nat.le_refl _) _).trans (hb.mono (by simp))
  have B_w20 := Lib.hid (B_w19.out.trans (hb.mono B_w19.out.size))
  have Ione_w20 := Lib.hid (Ione_w19.out.keep hb)
  have Iall_w20 := Lib.hid (Iall_w19.out.keep hb)
  have Itorn_w20 := Lib.hid (Itorn_w19.out.keep hb)
  have Ibare_w20 := Lib.hid (Ibare_w19.out.keep hb)
  clear hb
  go_wp2_with fail
  refine (G5.out all w20 Iall_w20.out).mono ?_
  rintro e' w21 ⟨rfl, hb⟩
  have B_w21 := Lib.hid (B_w20.out.trans (hb.mono B_w20.out.size))
  have Ione_w21 := Lib.hid (Ione_w20.out.keep hb)
  have Iall_w21 := Lib.hid (Iall_w20.out.keep hb)
  have Itorn_w21 := Lib.hid (Itorn_w20.out.keep hb)
  have Ibare_w21 := Lib.hid (Ibare_w20.out.keep hb)
  clear hb
  go_wp2_with fail
  refine (head_any 1048575 w21 (by omega)).mono ?_
  rintro e' w22 ⟨rfl, hb⟩
  have B_w22 := Lib.hid (B_w21.out.trans (hb.mono B_w21.out.size))
  clear hb
  go_wp2_with fail
  refine (K8.out w22).mono ?_
  rintro e' w23 ⟨last, rfl, hle, hi, hb⟩
  have lb_last : w.heap.size ≤ last := by have := B_w22.out.size; omega
  have B_w23 := Lib.hid (B_w22.out.trans (hb.mono B_w22.out.size))
  have Ilast_w23 := Lib.hid hi
  have Llast := Lib.hid hle
  clear hb hi hle
  go_wp2_with fail
  refine (add_yes 5 1048575 16 [] 9 (by omega) (by omega) (by decide) last w23 Ilast_w23.out).mono ?_
  rintro e' w24 ⟨rfl, hi, hk⟩
  have Ilast_w24 := Lib.hid hi
  have B_w24 := Lib.hid (keepX_below B_w23.out lb_last (Nat.le_refl _) hk)
  clear hi hk
  go_wp2_with fail
  refine (add_no 5 1048575 41 [16] 9 40 (by omega) (by omega) (by decide) (by omega) last w24 Ilast_w24.out).mono ?_
  rintro e' wx ⟨rfl, rfl⟩
  go_wp2_with fail
  refine (nilAdd 1 w24).mono ?_
  rintro e' wx ⟨rfl, rfl⟩
  go_wp2_with fail
  refine (nilGet S 0 w24).mono ?_
  rintro e' w25 ⟨rfl, hb⟩
  have B_w25 := Lib.hid (B_w24.out.trans (hb.mono B_w24.out.size))
  have Ilast_w25 := Lib.hid (Ilast_w24.out.keep hb)
  clear hb
  go_wp2_with fail
  refine (nilCopy w25).mono ?_
  rintro e' wx ⟨rfl, rfl⟩
  go_wp2_with fail
  refine (nilFirst w25).mono ?_
  rintro e' wx ⟨rfl, rfl⟩
  go_wp2_with fail
  refine (nilNext w25).mono ?_
  rintro e' wx ⟨rfl, rfl⟩
  go_wp2_with fail
  refine (nilGood w25).mono ?_
  rintro e' wx ⟨rfl, rfl⟩
  go_wp2_with fail
  refine (nilSteps 0 w25).mono ?_
  rintro e' w26 ⟨rfl, hb⟩
  have B_w26 := Lib.hid (B_w25.out.trans (hb.mono B_w25.out.size))
  have Ilast_w26 := Lib.hid (Ilast_w25.out.keep hb)
  clear hb
  go_wp2_with fail
  refine (nilMarks w26).mono ?_
  rintro e' wx ⟨rfl, rfl⟩
  go_wp2_with fail
  go_ret
  exact ⟨rfl, B_w26.out⟩

end Go.Proofs.Ytmeefecpnfclpaa
