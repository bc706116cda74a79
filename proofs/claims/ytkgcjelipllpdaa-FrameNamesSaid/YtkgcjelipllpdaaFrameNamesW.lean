/- The walk over FrameNames (printed by gen_names.py). -/
import Derived.Test.YtkgcjelipllpdaaNamesL
import Derived.Test.YtkgcjelipllpdaaMany
import Derived.BigRegion
import Derived.BigQuiet
namespace Go.Proofs.Ytkgcjelipllpdaa
open Go.RowKit

theorem _root_.Go.Calls.to {P : Program} {k : Nat} {xs : Array Value} {w : World} {v v' : Value} (h : Calls P k xs w fun e w' => e = .returned v ∧ Below w.heap.size w w') (hv : v = v') :
    Calls P k xs w fun e w' => e = .returned v' ∧ Below w.heap.size w w' := by subst hv; exact h
theorem _root_.Go.Calls.to' {P : Program} {k : Nat} {xs : Array Value} {w : World} {v v' : Value} (h : Calls P k xs w fun e w' => e = .returned v ∧ w = w') (hv : v = v') :
    Calls P k xs w fun e w' => e = .returned v' ∧ w = w' := by subst hv; exact h

theorem row_two {w : World} {B cap : Nat} {oa : Option Addr} {q r : Nat} {p o : ByteArray} {a c : Int} (h : w.ownsRow B 24 3 (.slice oa 2 cap) 2 ((frCells q p a).toList ++ (frCells r o c).toList)) :
    ∃ g, oa = some ⟨g, 0, none⟩ ∧ g < w.heap.size ∧ w.cell? ⟨g, 4, none⟩ = some (.string o) ∧ w.cell? ⟨g, 5, none⟩ = some (.int .i64 c) := by
  rcases h.2 with ⟨_, h0⟩ | ⟨g, c', cur, hv, hB, hcur, _⟩
  · cases h0
  · cases hv
    have add : ∀ j, (⟨g, 0, none⟩ : Addr).add j = ⟨g, j, none⟩ := fun j => by unfold Addr.add; split <;> simp_all
    have c1 := h.cells (g := g) rfl 4 (.string o) rfl
    have c2 := h.cells (g := g) rfl 5 (.int .i64 c) rfl
    rw [add] at c1 c2
    exact ⟨g, rfl, (Array.getElem?_eq_some_iff.1 hcur).1, c1, c2⟩

theorem many_to (n : Nat) (c : UInt8) (s : ByteArray) (m d : Int) (hm : (n : Int) = m) (hd : (c.toNat : Int) = d) (hn : n ≤ 1000000) (hs : s = bs (List.replicate n c)) (w : World) :
    Calls Try.prog 16 #[.int .i64 m, .int .u8 d] w fun e w' => e = .returned (.string s) ∧ Below w.heap.size w w' := by
  subst hs hm hd; exact many_any n c w hn
theorem made_to (q : Int) (s t : ByteArray) (hs : s.size ≤ 1000000) (ht : mkS q s = t) (w : World) :
    Calls Try.prog 17 #[.int .i64 q, .string s] w fun e w' => e = .returned (.string t) ∧ Below w.heap.size w w' := by
  subst ht; exact made_any q s w hs
theorem make_to (q : Int) (s t : ByteArray) (n : Int) (hs : s.size ≤ 1000000) (ht : mkS q s = t) (hn : (mkE q s : Int) = n) (w : World) :
    Calls Try.prog 15 #[.int .i64 q, .string s] w fun e w' => e = .returned (.tuple #[.string t, .int .i64 n]) ∧ Below w.heap.size w w' := by
  subst ht hn; exact make_any q s w hs
theorem size_to (n m : Int) (h : szOf n = m) (w : World) :
    Calls Try.prog 18 #[.int .i64 n] w fun e w' => e = .returned (.int .i64 m) ∧ w = w' := by
  subst h; exact size_any n w
theorem app_data (s t : ByteArray) (l m : List UInt8) (hs : s.data.toList = l) (ht : t.data.toList = m) : (s ++ t).data.toList = l ++ m := by rw [data_app, hs, ht]
theorem ref_to (s : ByteArray) (l : List UInt8) (a : Int) (e : Nat) (m : Int) (hm : (e : Int) = m) (hs : s.size ≤ 1000000) (hl : s.data.toList = l) (h : rdE l a = e) (he : e ≠ 0) (w : World) :
    Calls Try.prog 19 #[.string s, .int .i64 a, .int .i64 m] w fun x w' => x = .returned (.bool true) ∧ Below w.heap.size w w' := by
  subst hm; exact refused_to s a e w hs (by rw [hl]; exact h) he

theorem sz_of {s : ByteArray} {l : List UInt8} {n : Nat} (h : s.data.toList = l) (hn : l.length = n) : s.size = n := by rw [← len_data, h, hn]

/-- the frame with the longest payload and the greatest number, as it is read -/
theorem read_long (L S : ByteArray) (hL : L.data.toList.length = 4096) (hS : S.data.toList = frm 1048575 L.data.toList) (w : World) :
    Calls Try.prog 10 #[.string S, .int .i64 0] w fun e w' => e = .returned (.tuple #[.agg #[.int .i64 1048575, .string L, .int .i64 0], .int .i64 4112, .int .i64 0]) ∧ Below w.heap.size w w' := by
  have h := read_made [] L.data.toList [] 1048575 (by omega) (by omega) (by omega)
  rw [List.nil_append, List.append_nil, ← hS] at h
  obtain ⟨h1, h2, h3, h4⟩ := h
  have hs : S.size ≤ 1000000 := by
    rw [← len_data, hS]; unfold frm head
    simp only [List.length_append, length_be4, length_be8, length_four]; omega
  have h0 : ¬ (((0 : Nat) : Int) < 0 ∨ (S.data.toList.length : Int) < ((0 : Nat) : Int)) := by omega
  have hE : rdE S.data.toList ((0 : Nat) : Int) = 0 := by unfold rdE; rw [if_neg h0]; exact h1
  refine Go.Calls.to (read_any S ((0 : Nat) : Int) w hs) ?_
  unfold readV frV frCells
  rw [if_pos hE]
  simp only [List.length_nil, Nat.zero_add, Int.toNat_natCast] at h2 h3 h4 ⊢
  rw [h3, h2, hL] at *
  rw [h4, bs_of]
  rfl

set_option maxRecDepth 100000 in
set_option maxHeartbeats 8000000 in
theorem names_any (w : World) :
    Calls Try.prog 6 #[] w fun e w' => e = .returned (.bool true) ∧ Below w.heap.size w w' := by
  obtain ⟨L, eL⟩ : ∃ L : ByteArray, L = bs (List.replicate 4096 120) := ⟨_, rfl⟩
  have hLd : L.data.toList = List.replicate 4096 120 := by rw [eL, bs_data]
  have hLl : L.data.toList.length = 4096 := by rw [hLd, List.length_replicate]
  have hL : L.size = 4096 := hLl
  obtain ⟨S, eS⟩ : ∃ S : ByteArray, S = bs (frm 1048575 L.data.toList) := ⟨_, rfl⟩
  have hSd : S.data.toList = frm 1048575 L.data.toList := by rw [eS, bs_data]
  have hS : S.size = 4112 := by
    rw [← len_data, hSd]; unfold frm head
    simp only [List.length_append, length_be4, length_be8, length_four]; omega
  have hmkE : mkE 1048575 L = 0 := by unfold mkE; rw [if_neg (by omega), if_neg (by omega), if_neg (by omega)]
  have hmk : mkS 1048575 L = S := by unfold mkS; rw [if_pos hmkE, eS]; rfl
  obtain ⟨O, eO⟩ : ∃ O : ByteArray, O = bs oneL := ⟨_, rfl⟩
  have hOd : O.data.toList = oneL := by rw [eO, bs_data]
  have hO : O.size = 19 := sz_of hOd one_len
  have hmO : mkS 3 ⟨#[120, 121, 122]⟩ = O := by rw [eO]; rfl
  obtain ⟨Q, eQ⟩ : ∃ Q : ByteArray, Q = bs (frm 4 [113]) := ⟨_, rfl⟩
  have hmQ : mkS 4 ⟨#[113]⟩ = Q := by rw [eQ]; rfl
  have hQd : Q.data.toList = frm 4 [113] := by rw [eQ, bs_data]
  have hQ : Q.size = 17 := sz_of hQd (by kernel_rfl)
  obtain ⟨R, eR⟩ : ∃ R : ByteArray, R = bs (frm 6 [114]) := ⟨_, rfl⟩
  have hmR : mkS 6 ⟨#[114]⟩ = R := by rw [eR]; rfl
  have hRd : R.data.toList = frm 6 [114] := by rw [eR, bs_data]
  have hR : R.size = 17 := sz_of hRd (by kernel_rfl)
  obtain ⟨Z16, eZ16⟩ : ∃ x : ByteArray, x = bs (List.replicate 16 0) := ⟨_, rfl⟩
  have hZ16d : Z16.data.toList = List.replicate 16 0 := by rw [eZ16, bs_data]
  have hZ16 : Z16.size = 16 := sz_of hZ16d (List.length_replicate)
  obtain ⟨F16, eF16⟩ : ∃ x : ByteArray, x = bs (List.replicate 16 255) := ⟨_, rfl⟩
  have hF16d : F16.data.toList = List.replicate 16 255 := by rw [eF16, bs_data]
  have hF16 : F16.size = 16 := sz_of hF16d (List.length_replicate)
  obtain ⟨Z5, eZ5⟩ : ∃ x : ByteArray, x = bs (List.replicate 5000 0) := ⟨_, rfl⟩
  have hZ5d : Z5.data.toList = List.replicate 5000 0 := by rw [eZ5, bs_data]
  have hZ5 : Z5.size = 5000 := sz_of hZ5d (List.length_replicate)
  obtain ⟨Z12, eZ12⟩ : ∃ x : ByteArray, x = bs (List.replicate 12 0) := ⟨_, rfl⟩
  have hZ12d : Z12.data.toList = List.replicate 12 0 := by rw [eZ12, bs_data]
  have hZ12 : Z12.size = 12 := sz_of hZ12d (List.length_replicate)
  obtain ⟨Z9, eZ9⟩ : ∃ x : ByteArray, x = bs (List.replicate 9 0) := ⟨_, rfl⟩
  have hZ9d : Z9.data.toList = List.replicate 9 0 := by rw [eZ9, bs_data]
  have hZ9 : Z9.size = 9 := sz_of hZ9d (List.length_replicate)
  have x15 : (O.extract 0 15).data.toList = oneL.take 15 := by rw [ByteArray.data_extract, Array.toList_extract, hOd]; rfl
  have x16 : (O.extract 0 16).data.toList = oneL.take 16 := by rw [ByteArray.data_extract, Array.toList_extract, hOd]; rfl
  have x18 : (O.extract 0 18).data.toList = oneL.take 18 := by rw [ByteArray.data_extract, Array.toList_extract, hOd]; rfl
  have s15 : (O.extract 0 15).size = 15 := sz_of x15 (by rw [List.length_take, one_len]; rfl)
  have s16 : (O.extract 0 16).size = 16 := sz_of x16 (by rw [List.length_take, one_len]; rfl)
  have s18 : (O.extract 0 18).size = 18 := sz_of x18 (by rw [List.length_take, one_len]; rfl)
  have a18 := app_data (O.extract 0 18) ⟨#[33]⟩ _ [33] x18 rfl
  have aZ5 := app_data ⟨#[0, 0, 16, 1]⟩ Z5 [0, 0, 16, 1] _ rfl hZ5d
  have aZ12 := app_data ⟨#[0, 0, 16, 0]⟩ Z12 [0, 0, 16, 0] _ rfl hZ12d
  have aZ9 := app_data ⟨#[0, 0, 0, 1, 0, 0, 0, 0, 0, 16, 0, 0]⟩ Z9 [0, 0, 0, 1, 0, 0, 0, 0, 0, 16, 0, 0] _ rfl hZ9d
  have z18 : (O.extract 0 18 ++ ⟨#[33]⟩ : ByteArray).size = 19 := by rw [ByteArray.size_append, s18]; rfl
  have zZ5 : ((⟨#[0, 0, 16, 1]⟩ : ByteArray) ++ Z5).size = 5004 := by rw [ByteArray.size_append, hZ5]; rfl
  have zZ12 : ((⟨#[0, 0, 16, 0]⟩ : ByteArray) ++ Z12).size = 16 := by rw [ByteArray.size_append, hZ12]; rfl
  have zZ9 : ((⟨#[0, 0, 0, 1, 0, 0, 0, 0, 0, 16, 0, 0]⟩ : ByteArray) ++ Z9).size = 21 := by rw [ByteArray.size_append, hZ9]; rfl
  have aX : ((⟨#[106, 117, 110, 107]⟩ : ByteArray) ++ O ++ Q ++ R).data.toList = allL := by
    rw [data_app, data_app, data_app, hOd, hQd, hRd]; rfl
  have zX : ((⟨#[106, 117, 110, 107]⟩ : ByteArray) ++ O ++ Q ++ R).size = 57 := by rw [ByteArray.size_append, ByteArray.size_append, ByteArray.size_append, hO, hQ, hR]; rfl
  have zL : (L ++ ⟨#[120]⟩ : ByteArray).size = 4097 := by rw [ByteArray.size_append, hL]; rfl
  have eL40 : mkE 0 (L ++ ⟨#[120]⟩) = 40 := by unfold mkE; rw [zL, if_neg (by decide), if_neg (by decide), if_pos (by decide)]
  have hrow : frRow (⟨#[106, 117, 110, 107]⟩ ++ O ++ Q ++ R) [4, 23] = (frCells 3 ⟨#[120, 121, 122]⟩ 4).toList ++ (frCells 4 ⟨#[113]⟩ 23).toList := by
    unfold frRow
    rw [aX]
    kernel_rfl
  have HR := Lib.hid hrow
  have C1 := Lib.hid (fun w => works_any w)
  have C2 := Lib.hid (many_to 4096 120 L 4096 120 rfl rfl (by decide) eL)
  have C3 := Lib.hid (made_to 1048575 L S (by omega) hmk)
  have C4 := Lib.hid (read_long L S hLl hSd)
  have D0 := Lib.hid (size_to 4096 4112 (by decide))
  have D1 := Lib.hid (size_to 4097 0 (by decide))
  have D2 := Lib.hid (size_to 0 0 (by decide))
  have D3 := Lib.hid (size_to 1 17 (by decide))
  have C5 := Lib.hid (make_to (-1) ⟨#[]⟩ ⟨#[]⟩ 1 (by decide) (by decide) (by decide))
  have C6 := Lib.hid (make_to 1048576 ⟨#[120]⟩ ⟨#[]⟩ 1 (by decide) (by decide) (by decide))
  have C7 := Lib.hid (make_to 0 ⟨#[]⟩ ⟨#[]⟩ 4 (by decide) (by decide) (by decide))
  have C8 := Lib.hid (make_to 0 (L ++ ⟨#[120]⟩) ⟨#[]⟩ 40 (by rw [zL]; decide) (by unfold mkS; rw [if_neg (by rw [eL40]; decide)]) (by rw [eL40]; rfl))
  have C9 := Lib.hid (made_to 3 ⟨#[120, 121, 122]⟩ O (by decide) hmO)
  have R1 := Lib.hid (ref_to O oneL (-1) 1 1 rfl (by omega) hOd (by decide) (by decide))
  have R2 := Lib.hid (ref_to O oneL 20 1 1 rfl (by omega) hOd n_out20 (by decide))
  have R3 := Lib.hid (ref_to O oneL 19 8 8 rfl (by omega) hOd n_short (by decide))
  have R4 := Lib.hid (ref_to (O.extract 0 15) _ 0 8 8 rfl (by omega) x15 n_cut15 (by decide))
  have R5 := Lib.hid (ref_to (O.extract 0 16) _ 0 8 8 rfl (by omega) x16 n_cut16 (by decide))
  have M1 := Lib.hid (many_to 16 0 Z16 16 0 rfl rfl (by decide) eZ16)
  have R6 := Lib.hid (ref_to Z16 _ 0 4 4 rfl (by omega) hZ16d n_zeros (by decide))
  have M2 := Lib.hid (many_to 16 255 F16 16 255 rfl rfl (by decide) eF16)
  have R7 := Lib.hid (ref_to F16 _ 0 4 4 rfl (by omega) hF16d n_ones (by decide))
  have R8 := Lib.hid (ref_to (O.extract 0 18 ++ ⟨#[33]⟩) _ 0 42 42 rfl (by omega) a18 n_sum (by decide))
  have M3 := Lib.hid (many_to 5000 0 Z5 5000 0 rfl rfl (by decide) eZ5)
  have R9 := Lib.hid (ref_to (⟨#[0, 0, 16, 1]⟩ ++ Z5) _ 0 4 4 rfl (by omega) aZ5 n_big (by decide))
  have M4 := Lib.hid (many_to 12 0 Z12 12 0 rfl rfl (by decide) eZ12)
  have R10 := Lib.hid (ref_to (⟨#[0, 0, 16, 0]⟩ ++ Z12) _ 0 8 8 rfl (by omega) aZ12 n_most (by decide))
  have M5 := Lib.hid (many_to 9 0 Z9 9 0 rfl rfl (by decide) eZ9)
  have R11 := Lib.hid (ref_to (⟨#[0, 0, 0, 1, 0, 0, 0, 0, 0, 16, 0, 0]⟩ ++ Z9) _ 0 4 4 rfl (by omega) aZ9 n_seq (by decide))
  have G1 := Lib.hid (made_to 4 ⟨#[113]⟩ Q (by decide) hmQ)
  have G2 := Lib.hid (made_to 6 ⟨#[114]⟩ R (by decide) hmR)
  have T1 := Lib.hid (fun w => scan_to (⟨#[106, 117, 110, 107]⟩ ++ O ++ Q ++ R) allL 4 3 [4, 23] 40 w (by omega) aX n_scan n_good)
  have T2 := Lib.hid (fun w => scan_to (⟨#[106, 117, 110, 107]⟩ ++ O ++ Q ++ R) allL (-1) 3 [] 0 w (by omega) aX n_out n_outg)
  have T3 := Lib.hid (fun w => scan_to (⟨#[106, 117, 110, 107]⟩ ++ O ++ Q ++ R) allL 9 3 [] 9 w (by omega) aX n_mid n_midg)
  clear hrow eL hLd hLl eS hSd hmkE hmk eO hOd hmO eQ hmQ hQd eR hmR hRd eZ16 hZ16d eF16 hF16d eZ5 hZ5d eZ12 hZ12d eZ9 hZ9d x15 x16 x18 s15 s16 a18 aZ5 aZ12 aZ9 aX zL eL40
  go_enter Try.func6, Try.ntmps6
  go_wp2_with fail
  with_reducible refine (C1.out _).mono ?_
  rintro e w1 ⟨rfl, hb1⟩
  have B1 := Lib.hid (hb1)
  clear hb1
  go_wp2_with fail
  with_reducible refine (C2.out _).mono ?_
  rintro e w2 ⟨rfl, hb2⟩
  have B2 := Lib.hid (bel_trans B1.out hb2)
  clear hb2 B1
  go_wp2_with fail
  with_reducible refine (C3.out _).mono ?_
  rintro e w3 ⟨rfl, hb3⟩
  have B3 := Lib.hid (bel_trans B2.out hb3)
  clear hb3 B2
  go_wp2_with fail
  with_reducible refine (C4.out _).mono ?_
  rintro e w4 ⟨rfl, hb4⟩
  have B4 := Lib.hid (bel_trans B3.out hb4)
  clear hb4 B3
  go_wp2_with fail
  with_reducible refine (D0.out _).mono ?_
  rintro e w' ⟨rfl, rfl⟩
  go_wp2_with fail
  with_reducible refine (D1.out _).mono ?_
  rintro e w' ⟨rfl, rfl⟩
  go_wp2_with fail
  with_reducible refine (D2.out _).mono ?_
  rintro e w' ⟨rfl, rfl⟩
  go_wp2_with fail
  with_reducible refine (D3.out _).mono ?_
  rintro e w' ⟨rfl, rfl⟩
  go_wp2_with fail
  with_reducible refine (C5.out _).mono ?_
  rintro e w5 ⟨rfl, hb5⟩
  have B5 := Lib.hid (bel_trans (bel_alloc B4.out _) hb5)
  clear hb5 B4
  go_wp2_with fail
  with_reducible refine (C6.out _).mono ?_
  rintro e w6 ⟨rfl, hb6⟩
  have B6 := Lib.hid (bel_trans B5.out hb6)
  clear hb6 B5
  go_wp2_with fail
  with_reducible refine (C7.out _).mono ?_
  rintro e w7 ⟨rfl, hb7⟩
  have B7 := Lib.hid (bel_trans B6.out hb7)
  clear hb7 B6
  go_wp2_with fail
  with_reducible refine (C8.out _).mono ?_
  rintro e w8 ⟨rfl, hb8⟩
  have B8 := Lib.hid (bel_trans B7.out hb8)
  clear hb8 B7
  go_wp2_with fail
  with_reducible refine (C9.out _).mono ?_
  rintro e w9 ⟨rfl, hb9⟩
  have B9 := Lib.hid (bel_trans B8.out hb9)
  clear hb9 B8
  go_wp2_with fail
  with_reducible refine (R1.out _).mono ?_
  rintro e w10 ⟨rfl, hb10⟩
  have B10 := Lib.hid (bel_trans B9.out hb10)
  clear hb10 B9
  go_wp2_with fail
  with_reducible refine (R2.out _).mono ?_
  rintro e w11 ⟨rfl, hb11⟩
  have B11 := Lib.hid (bel_trans B10.out hb11)
  clear hb11 B10
  go_wp2_with fail
  with_reducible refine (R3.out _).mono ?_
  rintro e w12 ⟨rfl, hb12⟩
  have B12 := Lib.hid (bel_trans B11.out hb12)
  clear hb12 B11
  go_wp2_with fail
  with_reducible refine (R4.out _).mono ?_
  rintro e w13 ⟨rfl, hb13⟩
  have B13 := Lib.hid (bel_trans B12.out hb13)
  clear hb13 B12
  go_wp2_with fail
  with_reducible refine (R5.out _).mono ?_
  rintro e w14 ⟨rfl, hb14⟩
  have B14 := Lib.hid (bel_trans B13.out hb14)
  clear hb14 B13
  go_wp2_with fail
  with_reducible refine (M1.out _).mono ?_
  rintro e w15 ⟨rfl, hb15⟩
  have B15 := Lib.hid (bel_trans B14.out hb15)
  clear hb15 B14
  go_wp2_with fail
  with_reducible refine (R6.out _).mono ?_
  rintro e w16 ⟨rfl, hb16⟩
  have B16 := Lib.hid (bel_trans B15.out hb16)
  clear hb16 B15
  go_wp2_with fail
  with_reducible refine (M2.out _).mono ?_
  rintro e w17 ⟨rfl, hb17⟩
  have B17 := Lib.hid (bel_trans B16.out hb17)
  clear hb17 B16
  go_wp2_with fail
  with_reducible refine (R7.out _).mono ?_
  rintro e w18 ⟨rfl, hb18⟩
  have B18 := Lib.hid (bel_trans B17.out hb18)
  clear hb18 B17
  go_wp2_with fail
  with_reducible refine (R8.out _).mono ?_
  rintro e w19 ⟨rfl, hb19⟩
  have B19 := Lib.hid (bel_trans B18.out hb19)
  clear hb19 B18
  go_wp2_with fail
  with_reducible refine (M3.out _).mono ?_
  rintro e w20 ⟨rfl, hb20⟩
  have B20 := Lib.hid (bel_trans B19.out hb20)
  clear hb20 B19
  go_wp2_with fail
  with_reducible refine (R9.out _).mono ?_
  rintro e w21 ⟨rfl, hb21⟩
  have B21 := Lib.hid (bel_trans B20.out hb21)
  clear hb21 B20
  go_wp2_with fail
  with_reducible refine (M4.out _).mono ?_
  rintro e w22 ⟨rfl, hb22⟩
  have B22 := Lib.hid (bel_trans B21.out hb22)
  clear hb22 B21
  go_wp2_with fail
  with_reducible refine (R10.out _).mono ?_
  rintro e w23 ⟨rfl, hb23⟩
  have B23 := Lib.hid (bel_trans B22.out hb23)
  clear hb23 B22
  go_wp2_with fail
  with_reducible refine (M5.out _).mono ?_
  rintro e w24 ⟨rfl, hb24⟩
  have B24 := Lib.hid (bel_trans B23.out hb24)
  clear hb24 B23
  go_wp2_with fail
  with_reducible refine (R11.out _).mono ?_
  rintro e w25 ⟨rfl, hb25⟩
  have B25 := Lib.hid (bel_trans B24.out hb25)
  clear hb25 B24
  go_wp2_with fail
  with_reducible refine (G1.out _).mono ?_
  rintro e w26 ⟨rfl, hb26⟩
  have B26 := Lib.hid (bel_trans B25.out hb26)
  clear hb26 B25
  go_wp2_with fail
  with_reducible refine (G2.out _).mono ?_
  rintro e w27 ⟨rfl, hb27⟩
  have B27 := Lib.hid (bel_trans B26.out hb27)
  clear hb27 B26
  go_wp2_with fail
  with_reducible refine (T1.out _).mono ?_
  rintro e w28 ⟨oa, cap, rfl, ho, hb28⟩
  rw [HR.out] at ho
  obtain ⟨g, rfl, hg, k4, k5⟩ := row_two ho
  clear ho
  have B28 := Lib.hid (bel_trans B27.out hb28)
  clear hb28 B27
  go_wp2_with fail
  with_reducible refine (T2.out _).mono ?_
  rintro e w29 ⟨oa29, cap29, rfl, ho29, hb29⟩
  clear ho29
  have hg29 : g < w29.heap.size := Nat.lt_of_lt_of_le hg hb29.size
  replace k4 := (hb29.cell (p := ⟨g, 4, none⟩) hg).trans k4
  replace k5 := (hb29.cell (p := ⟨g, 5, none⟩) hg).trans k5
  clear hg
  have hg := hg29
  clear hg29
  have B29 := Lib.hid (bel_trans B28.out hb29)
  clear hb29 B28
  go_wp2_with fail
  with_reducible refine (T3.out _).mono ?_
  rintro e w30 ⟨oa30, cap30, rfl, ho30, hb30⟩
  clear ho30
  have hg30 : g < w30.heap.size := Nat.lt_of_lt_of_le hg hb30.size
  replace k4 := (hb30.cell (p := ⟨g, 4, none⟩) hg).trans k4
  replace k5 := (hb30.cell (p := ⟨g, 5, none⟩) hg).trans k5
  clear hg
  have hg := hg30
  clear hg30
  have B30 := Lib.hid (bel_trans B29.out hb30)
  clear hb30 B29
  go_wp2_with fail
  go_ret
  exact ⟨rfl, B30.out⟩

end Go.Proofs.Ytkgcjelipllpdaa
