/- The walk over FrameBurst (printed by gen_fburst.py). -/
import Derived.Test.YtkgcjelipllpdaaRunFour
import Derived.Test.YtkgcjelipllpdaaByt
import Derived.Laws.MakeOwn
import Derived.BigRegion
import Derived.BigQuiet
import Derived.OpenShut
namespace Go.Proofs.Ytkgcjelipllpdaa
open Go.RowKit

theorem from_lt (a : Int) (n : Int) (h0 : 0 < n) (hn : n ≤ 1000000000) : ∃ f : Nat, wrap64 ((IntKind.u64.wrap a).tmod n) = f ∧ (f : Int) < n := by
  have h1 : 0 ≤ IntKind.u64.wrap a := by rw [IntKind.wrap_u64]; omega
  have h2 : (IntKind.u64.wrap a).tmod n = IntKind.u64.wrap a % n := Int.tmod_eq_emod_of_nonneg h1
  have h3 : 0 ≤ IntKind.u64.wrap a % n := Int.emod_nonneg _ (by omega)
  have h4 : IntKind.u64.wrap a % n < n := Int.emod_lt_of_pos _ (by omega)
  rw [h2]
  generalize IntKind.u64.wrap a % n = x at *
  refine ⟨x.toNat, ?_, by omega⟩
  unfold wrap64
  omega
theorem wrap_in (n : Int) (m : Nat) (h : n = m) (hm : m ≤ 1000000000) : wrap64 n = m := by subst h; unfold wrap64; omega

theorem splice_store {w : World} {b : Nat} {L y : List UInt8} {k m : Nat} (h : bytesAt w b (splice L k y)) (hk : k + y.length < L.length) (hm : m = k + y.length) (v : Int) (hv : (Lit.int .u8 v).wf = true) :
    bytesAt (w.setCell ⟨b, m, none⟩ (.int .u8 v)) b (splice L k (y ++ [UInt8.ofNat v.toNat])) := by
  have hb : 0 ≤ v ∧ v ≤ 255 := bounds_u8 hv
  have e : v = ((UInt8.ofNat v.toNat).toNat : Int) := by rw [UInt8.toNat_ofNat', Nat.mod_eq_of_lt (by omega)]; omega
  have := h.store m (by rw [splice_len _ _ _ (by omega)]; omega) (UInt8.ofNat v.toNat)
  rw [← e, hm, splice_set _ _ _ _ hk, ← hm] at this
  exact this

/-- a frame that was made, read -/
theorem read_frm (q : Nat) (s x : ByteArray) (hq : q < 1048576) (h1 : 1 ≤ s.size) (h2 : s.size ≤ 4096) (hx : x.data.toList = frm q s.data.toList) (w : World) :
    Calls Try.prog 10 #[.string x, .int .i64 0] w fun e w' => e = .returned (.tuple #[.agg #[.int .i64 q, .string s, .int .i64 0], .int .i64 ((16 + s.size : Nat) : Int), .int .i64 0]) ∧ Below w.heap.size w w' := by
  have h := read_made [] s.data.toList [] q hq h1 h2
  rw [List.nil_append, List.append_nil, ← hx] at h
  obtain ⟨g1, g2, g3, g4⟩ := h
  have hs : x.size ≤ 1000000 := by
    rw [← len_data, hx]; unfold frm head
    simp only [List.length_append, length_be4, length_be8, length_four, len_data]; omega
  have h0 : ¬ (((0 : Nat) : Int) < 0 ∨ (x.data.toList.length : Int) < ((0 : Nat) : Int)) := by omega
  have hE : rdE x.data.toList ((0 : Nat) : Int) = 0 := by unfold rdE; rw [if_neg h0]; exact g1
  have hr := read_any x ((0 : Nat) : Int) w hs
  unfold readV frV frCells at hr
  rw [if_pos hE] at hr
  simp only [List.length_nil, Nat.zero_add, Int.toNat_natCast] at g2 g3 g4 hr
  rw [g3, g2, g4, bs_of] at hr
  exact hr
/-- what is not read -/
theorem read_not (x : ByteArray) (k : Nat) (hs : x.size ≤ 1000000) (hk : k ≠ 0) (h : fE x.data.toList 0 = k) (w : World) :
    Calls Try.prog 10 #[.string x, .int .i64 0] w fun e w' => e = .returned (.tuple #[.agg #[.int .i64 0, .string ⟨#[]⟩, .int .i64 0], .int .i64 0, .int .i64 k]) ∧ Below w.heap.size w w' := by
  have h0 : ¬ (((0 : Nat) : Int) < 0 ∨ (x.data.toList.length : Int) < ((0 : Nat) : Int)) := by omega
  have hE : rdE x.data.toList ((0 : Nat) : Int) = k := by unfold rdE; rw [if_neg h0]; exact h
  have hr := read_any x ((0 : Nat) : Int) w hs
  unfold readV frV frCells at hr
  rw [hE, if_neg hk] at hr
  exact hr

set_option maxHeartbeats 400000 in
theorem fburst_long (seq : Int) (s : ByteArray) (part a bits : Int) (w : World) (h : 6000 < s.size) :
    Calls Try.prog 5 #[.int .i64 seq, .string s, .int .u8 part, .int .i64 a, .int .u32 bits] w fun e w' => e = .returned (.bool true) ∧ Below w.heap.size w w' := by
  have d1 : decide ((6000 : Int) < (s.size : Int)) = true := decide_eq_true (by omega)
  go_enter Try.func5, Try.ntmps5
  go_wp2_with fail
  refine (works_any w).mono ?_
  rintro e w1 ⟨rfl, hb1⟩
  go_wp2_with fail
  refine (works_any w1).mono ?_
  rintro e w2 ⟨rfl, hb2⟩
  go_wp2_with fail
  go_ret
  exact ⟨rfl, bel_trans hb1 hb2⟩

set_option maxHeartbeats 400000 in
theorem fburst_bad (seq : Int) (s : ByteArray) (part a bits : Int) (w : World) (h : s.size ≤ 6000) (hE : mkE seq s ≠ 0) :
    Calls Try.prog 5 #[.int .i64 seq, .string s, .int .u8 part, .int .i64 a, .int .u32 bits] w fun e w' => e = .returned (.bool true) ∧ Below w.heap.size w w' := by
  have d1 : decide ((6000 : Int) < (s.size : Int)) = false := decide_eq_false (by omega)
  have hk := fun w => make_any seq s w (by omega)
  have hS : mkS seq s = ⟨#[]⟩ := by unfold mkS; rw [if_neg hE]
  rw [hS] at hk
  obtain ⟨e, ee⟩ : ∃ e, mkE seq s = e := ⟨_, rfl⟩
  rw [ee] at hk hE
  have d2 : ((e : Int) != 0) = true := by rw [bne_iff_ne]; omega
  have HK := Lib.hid hk
  clear hk hS ee
  go_enter Try.func5, Try.ntmps5
  go_wp2_with fail
  refine (works_any w).mono ?_
  rintro e w1 ⟨rfl, hb1⟩
  go_wp2_with fail
  refine (HK.out w1).mono ?_
  rintro e w2 ⟨rfl, hb2⟩
  go_wp2_with fail
  go_ret
  exact ⟨rfl, bel_trans hb1 hb2⟩

set_option maxRecDepth 100000 in
set_option maxHeartbeats 4000000 in
theorem fburst_0 (q : Nat) (s : ByteArray) (part a : Int) (p : BitVec 32) (w : World) (hq : q < 1048576) (h1 : 1 ≤ s.size) (h2 : s.size ≤ 4096) (h0 : 0 ≤ part) (h8 : part < 256) (h3 : part % 3 = 0) :
    Calls Try.prog 5 #[.int .i64 q, .string s, .int .u8 part, .int .i64 a, .int .u32 p.toNat] w fun e w' => e = .returned (.bool true) ∧ Below w.heap.size w w' := by
  have d1 : decide ((6000 : Int) < (s.size : Int)) = false := decide_eq_false (by omega)
  have hk := fun w => make_any q s w (by omega)
  have hE : mkE q s = 0 := by unfold mkE; rw [if_neg (by omega), if_neg (by omega), if_neg (by omega)]
  have hS : mkS q s = bs (frm q s.data.toList) := by unfold mkS; rw [if_pos hE, Int.toNat_natCast]
  rw [hE, hS] at hk
  obtain ⟨x, ex⟩ : ∃ x, bs (frm q s.data.toList) = x := ⟨_, rfl⟩
  rw [ex] at hk
  have hx : x.data.toList = frm q s.data.toList := by rw [← ex, bs_data]
  have hxs : x.size = 16 + s.size := by rw [← ex, size_bs]; unfold frm head; simp only [List.length_append, length_be4, length_be8, length_four, len_data]
  obtain ⟨f, hf, hfl⟩ := from_lt a (16 + (s.size : Int) - 16) (by omega) (by omega)
  obtain ⟨K, eK⟩ : ∃ K : Nat, K = 16 + f := ⟨_, rfl⟩
  have hK : wrap64 (16 + wrap64 ((IntKind.u64.wrap a).tmod (16 + (s.size : Int) - 16))) = (K : Int) := by rw [hf]; exact wrap_in _ _ (by omega) (by omega)
  have hKl : K < 16 + s.size := by omega
  obtain ⟨L, eL⟩ : ∃ L, x.data.toList = L := ⟨_, rfl⟩
  have hL : L.length = 16 + s.size := by rw [← eL, ← hxs]; rfl
  rw [eL] at hx
  have HRF := Lib.hid (read_frm q s x hq h1 h2 (by rw [eL]; exact hx))
  have HLaw := Lib.hid (fun (y : List UInt8) (hy : y.length ≤ 4) (hi : K + y.length ≤ 16 + s.size) (hne : splice L K y ≠ L) => show fE (splice L K y) 0 = 42 from by
    rw [hx] at hne ⊢
    rw [eK] at hne hi ⊢
    exact burst_payload q s.data.toList y f hq h1 h2 hy (by rw [len_data]; omega) hne)
  have HK := Lib.hid hk
  have HXL := Lib.hid eL
  have EK := Lib.hid eK
  clear hk hE hS ex hx hf eL eK hfl
  go_enter Try.func5, Try.ntmps5
  go_wp2_with fail
  refine (works_any w).mono ?_
  rintro e w1 ⟨rfl, hb1⟩
  go_wp2_with fail
  refine (HK.out w1).mono ?_
  rintro e w2 ⟨rfl, hb2⟩
  obtain ⟨cap, O, hcv, hby⟩ := conv_str w2 x
  rw [HXL.out] at hby
  have HB := Lib.hid hby
  have B2 := Lib.hid (bel_trans hb1 hb2)
  clear hby hb1 hb2
  go_wp2_with fail
  rw [hK]
  clear hK hcv
  go_loopw [17] (fun i wr => ∃ (j : Nat) (y : List UInt8), j ≤ 4 ∧ y.length = j ∧ K + j ≤ 16 + s.size ∧ i = .int .i64 j ∧ bytesAt wr w2.heap.size (splice L K y) ∧ Below w2.heap.size w2 wr) (fun i _ => 4 - (intOf i).toNat)
  case atStart => exact ⟨0, [], by omega, rfl, by omega, rfl, by rw [splice_nil]; exact HB.out, bel_drew (bel_alloc (Below.refl _ _) _)⟩
  case round =>
    obtain ⟨j, y, hj, hyl, hKj, rfl, hby, hbl⟩ := hrel
    clear HB
    have HB := Lib.hid hby
    have HYL := Lib.hid hyl
    have hspl : (splice L K y).length = 16 + s.size := by rw [splice_len _ _ _ (by omega)]; exact hL
    clear hby hyl
    by_cases h4 : j < 4 ∧ K + j < 16 + s.size
    · obtain ⟨g1, g2⟩ := h4
      have hd1 : decide ((j : Int) < 4) = true := by simp; omega
      have hd2 : decide ((K : Int) + (j : Int) < 16 + (s.size : Int)) = true := by simp; omega
      have hcell := HB.out.cell (K + j) (by omega)
      have hfr := HB.out.frozen (K + j) (by omega)
      have HSL := Lib.hid hspl
      have HL := Lib.hid hL
      clear hspl hL
      go_wp2_with fail
      go_roundw
      case rel =>
        refine ⟨j + 1, y ++ [_], by omega, by rw [List.length_append, HYL.out]; rfl, by omega, by go_num, splice_store HB.out (by rw [HYL.out, HL.out]; omega) (by rw [HYL.out]) _ (wf_bits _ _ _ _), hbl.setCell (Nat.le_refl _) _⟩
      case measure => simp [intOf]; omega
    · obtain ⟨t, et⟩ : ∃ t : ByteArray, ⟨(splice L K y).toArray⟩ = t := ⟨_, rfl⟩
      have htd : t.data.toList = splice L K y := by rw [← et]
      have hts : t.size = 16 + s.size := by rw [← len_data, htd, hspl]
      have hconv := HB.out.conv (16 + s.size) cap hspl
      rw [et] at hconv
      have hb3 := bel_trans B2.out hbl
      have hd1 : (decide ((j : Int) < 4) = true ∧ decide ((K : Int) + (j : Int) < 16 + (s.size : Int)) = false) ∨ decide ((j : Int) < 4) = false := by
        by_cases c : j < 4
        · exact .inl ⟨decide_eq_true (by omega), decide_eq_false (by omega)⟩
        · exact .inr (decide_eq_false (by omega))
      have HTD := Lib.hid htd
      have HTS := Lib.hid hts
      have B3 := Lib.hid hb3
      clear hspl et htd hts hb3 hbl B2 h4 HK
      by_cases hq' : t = x
      · subst hq'
        rcases hd1 with ⟨c1, c2⟩ | c1
        all_goals
          go_wp2_with fail
          refine (HRF.out _).mono ?_
          rintro e w4 ⟨rfl, hb4⟩
          go_wp2_with fail
          go_ret
          exact ⟨rfl, bel_alloc (bel_trans B3.out hb4) _⟩
      · have hne : (t.toList == x.toList) = false := by
          rw [beq_eq_false_iff_ne, ByteArray.toList_eq, ByteArray.toList_eq]
          intro h; exact hq' (ba_ext h)
        have hE := HLaw.out y (by rw [HYL.out]; omega) (by rw [HYL.out]; omega) (fun h => hq' (ba_ext (by rw [HTD.out, h, HXL.out])))
        rw [← HTD.out] at hE
        have HR := Lib.hid (read_not t 42 (by rw [HTS.out]; omega) (by decide) hE)
        clear hE
        rcases hd1 with ⟨c1, c2⟩ | c1
        all_goals
          go_wp2_with fail
          refine (HR.out _).mono ?_
          rintro e w4 ⟨rfl, hb4⟩
          go_wp2_with fail
          go_ret
          exact ⟨rfl, bel_alloc (bel_trans B3.out hb4) _⟩

set_option maxRecDepth 100000 in
set_option maxHeartbeats 4000000 in
theorem fburst_1 (q : Nat) (s : ByteArray) (part a : Int) (p : BitVec 32) (w : World) (hq : q < 1048576) (h1 : 1 ≤ s.size) (h2 : s.size ≤ 4096) (h0 : 0 ≤ part) (h8 : part < 256) (h3 : part % 3 = 1) :
    Calls Try.prog 5 #[.int .i64 q, .string s, .int .u8 part, .int .i64 a, .int .u32 p.toNat] w fun e w' => e = .returned (.bool true) ∧ Below w.heap.size w w' := by
  have d1 : decide ((6000 : Int) < (s.size : Int)) = false := decide_eq_false (by omega)
  have hk := fun w => make_any q s w (by omega)
  have hE : mkE q s = 0 := by unfold mkE; rw [if_neg (by omega), if_neg (by omega), if_neg (by omega)]
  have hS : mkS q s = bs (frm q s.data.toList) := by unfold mkS; rw [if_pos hE, Int.toNat_natCast]
  rw [hE, hS] at hk
  obtain ⟨x, ex⟩ : ∃ x, bs (frm q s.data.toList) = x := ⟨_, rfl⟩
  rw [ex] at hk
  have hx : x.data.toList = frm q s.data.toList := by rw [← ex, bs_data]
  have hxs : x.size = 16 + s.size := by rw [← ex, size_bs]; unfold frm head; simp only [List.length_append, length_be4, length_be8, length_four, len_data]
  obtain ⟨f, hf, hfl⟩ := from_lt a (8) (by omega) (by omega)
  obtain ⟨K, eK⟩ : ∃ K : Nat, K = 4 + f := ⟨_, rfl⟩
  have hK : wrap64 (4 + wrap64 ((IntKind.u64.wrap a).tmod (8))) = (K : Int) := by rw [hf]; exact wrap_in _ _ (by omega) (by omega)
  have hKl : K < 12 := by omega
  obtain ⟨L, eL⟩ : ∃ L, x.data.toList = L := ⟨_, rfl⟩
  have hL : L.length = 16 + s.size := by rw [← eL, ← hxs]; rfl
  rw [eL] at hx
  have HRF := Lib.hid (read_frm q s x hq h1 h2 (by rw [eL]; exact hx))
  have HLaw := Lib.hid (fun (y : List UInt8) (hy : y.length ≤ 4) (hi : K + y.length ≤ 12) (hne : splice L K y ≠ L) => show fE (splice L K y) 0 = 42 ∨ fE (splice L K y) 0 = 4 from by
    rw [hx] at hne ⊢
    rw [eK] at hne hi ⊢
    exact burst_number q s.data.toList y f h1 h2 hy (by omega) hne)
  have HK := Lib.hid hk
  have HXL := Lib.hid eL
  have EK := Lib.hid eK
  clear hk hE hS ex hx hf eL eK hfl
  go_enter Try.func5, Try.ntmps5
  go_wp2_with fail
  refine (works_any w).mono ?_
  rintro e w1 ⟨rfl, hb1⟩
  go_wp2_with fail
  refine (HK.out w1).mono ?_
  rintro e w2 ⟨rfl, hb2⟩
  obtain ⟨cap, O, hcv, hby⟩ := conv_str w2 x
  rw [HXL.out] at hby
  have HB := Lib.hid hby
  have B2 := Lib.hid (bel_trans hb1 hb2)
  clear hby hb1 hb2
  go_wp2_with fail
  rw [hK]
  clear hK hcv
  go_loopw [17] (fun i wr => ∃ (j : Nat) (y : List UInt8), j ≤ 4 ∧ y.length = j ∧ K + j ≤ 12 ∧ i = .int .i64 j ∧ bytesAt wr w2.heap.size (splice L K y) ∧ Below w2.heap.size w2 wr) (fun i _ => 4 - (intOf i).toNat)
  case atStart => exact ⟨0, [], by omega, rfl, by omega, rfl, by rw [splice_nil]; exact HB.out, bel_drew (bel_alloc (Below.refl _ _) _)⟩
  case round =>
    obtain ⟨j, y, hj, hyl, hKj, rfl, hby, hbl⟩ := hrel
    clear HB
    have HB := Lib.hid hby
    have HYL := Lib.hid hyl
    have hspl : (splice L K y).length = 16 + s.size := by rw [splice_len _ _ _ (by omega)]; exact hL
    clear hby hyl
    by_cases h4 : j < 4 ∧ K + j < 12
    · obtain ⟨g1, g2⟩ := h4
      have hd1 : decide ((j : Int) < 4) = true := by simp; omega
      have hd2 : decide ((K : Int) + (j : Int) < 12) = true := by simp; omega
      have hcell := HB.out.cell (K + j) (by omega)
      have hfr := HB.out.frozen (K + j) (by omega)
      have HSL := Lib.hid hspl
      have HL := Lib.hid hL
      clear hspl hL
      go_wp2_with fail
      go_roundw
      case rel =>
        refine ⟨j + 1, y ++ [_], by omega, by rw [List.length_append, HYL.out]; rfl, by omega, by go_num, splice_store HB.out (by rw [HYL.out, HL.out]; omega) (by rw [HYL.out]) _ (wf_bits _ _ _ _), hbl.setCell (Nat.le_refl _) _⟩
      case measure => simp [intOf]; omega
    · obtain ⟨t, et⟩ : ∃ t : ByteArray, ⟨(splice L K y).toArray⟩ = t := ⟨_, rfl⟩
      have htd : t.data.toList = splice L K y := by rw [← et]
      have hts : t.size = 16 + s.size := by rw [← len_data, htd, hspl]
      have hconv := HB.out.conv (16 + s.size) cap hspl
      rw [et] at hconv
      have hb3 := bel_trans B2.out hbl
      have hd1 : (decide ((j : Int) < 4) = true ∧ decide ((K : Int) + (j : Int) < 12) = false) ∨ decide ((j : Int) < 4) = false := by
        by_cases c : j < 4
        · exact .inl ⟨decide_eq_true (by omega), decide_eq_false (by omega)⟩
        · exact .inr (decide_eq_false (by omega))
      have HTD := Lib.hid htd
      have HTS := Lib.hid hts
      have B3 := Lib.hid hb3
      clear hspl et htd hts hb3 hbl B2 h4 HK
      by_cases hq' : t = x
      · subst hq'
        rcases hd1 with ⟨c1, c2⟩ | c1
        all_goals
          go_wp2_with fail
          refine (HRF.out _).mono ?_
          rintro e w4 ⟨rfl, hb4⟩
          go_wp2_with fail
          go_ret
          exact ⟨rfl, bel_alloc (bel_trans B3.out hb4) _⟩
      · have hne : (t.toList == x.toList) = false := by
          rw [beq_eq_false_iff_ne, ByteArray.toList_eq, ByteArray.toList_eq]
          intro h; exact hq' (ba_ext h)
        have hE := HLaw.out y (by rw [HYL.out]; omega) (by rw [HYL.out]; omega) (fun h => hq' (ba_ext (by rw [HTD.out, h, HXL.out])))
        rw [← HTD.out] at hE
        rcases hE with hE | hE
        · have HR := Lib.hid (read_not t 42 (by rw [HTS.out]; omega) (by decide) hE)
          clear hE
          rcases hd1 with ⟨c1, c2⟩ | c1
          all_goals
            go_wp2_with fail
            refine (HR.out _).mono ?_
            rintro e w4 ⟨rfl, hb4⟩
            go_wp2_with fail
            go_ret
            exact ⟨rfl, bel_alloc (bel_trans B3.out hb4) _⟩
        · have HR := Lib.hid (read_not t 4 (by rw [HTS.out]; omega) (by decide) hE)
          clear hE
          rcases hd1 with ⟨c1, c2⟩ | c1
          all_goals
            go_wp2_with fail
            refine (HR.out _).mono ?_
            rintro e w4 ⟨rfl, hb4⟩
            go_wp2_with fail
            go_ret
            exact ⟨rfl, bel_alloc (bel_trans B3.out hb4) _⟩

set_option maxRecDepth 100000 in
set_option maxHeartbeats 4000000 in
theorem fburst_2 (q : Nat) (s : ByteArray) (part a : Int) (p : BitVec 32) (w : World) (hq : q < 1048576) (h1 : 1 ≤ s.size) (h2 : s.size ≤ 4096) (h0 : 0 ≤ part) (h8 : part < 256) (h3 : part % 3 = 2) :
    Calls Try.prog 5 #[.int .i64 q, .string s, .int .u8 part, .int .i64 a, .int .u32 p.toNat] w fun e w' => e = .returned (.bool true) ∧ Below w.heap.size w w' := by
  have d1 : decide ((6000 : Int) < (s.size : Int)) = false := decide_eq_false (by omega)
  have hk := fun w => make_any q s w (by omega)
  have hE : mkE q s = 0 := by unfold mkE; rw [if_neg (by omega), if_neg (by omega), if_neg (by omega)]
  have hS : mkS q s = bs (frm q s.data.toList) := by unfold mkS; rw [if_pos hE, Int.toNat_natCast]
  rw [hE, hS] at hk
  obtain ⟨x, ex⟩ : ∃ x, bs (frm q s.data.toList) = x := ⟨_, rfl⟩
  rw [ex] at hk
  have hx : x.data.toList = frm q s.data.toList := by rw [← ex, bs_data]
  have hxs : x.size = 16 + s.size := by rw [← ex, size_bs]; unfold frm head; simp only [List.length_append, length_be4, length_be8, length_four, len_data]
  obtain ⟨f, hf, hfl⟩ := from_lt a (4) (by omega) (by omega)
  obtain ⟨K, eK⟩ : ∃ K : Nat, K = 12 + f := ⟨_, rfl⟩
  have hK : wrap64 (12 + wrap64 ((IntKind.u64.wrap a).tmod (4))) = (K : Int) := by rw [hf]; exact wrap_in _ _ (by omega) (by omega)
  have hKl : K < 16 := by omega
  obtain ⟨L, eL⟩ : ∃ L, x.data.toList = L := ⟨_, rfl⟩
  have hL : L.length = 16 + s.size := by rw [← eL, ← hxs]; rfl
  rw [eL] at hx
  have HRF := Lib.hid (read_frm q s x hq h1 h2 (by rw [eL]; exact hx))
  have HLaw := Lib.hid (fun (y : List UInt8) (hy : y.length ≤ 4) (hi : K + y.length ≤ 16) (hne : splice L K y ≠ L) => show fE (splice L K y) 0 = 42 from by
    rw [hx] at hne ⊢
    rw [eK] at hne hi ⊢
    exact burst_sum q s.data.toList y f hq h1 h2 (by omega) hne)
  have HK := Lib.hid hk
  have HXL := Lib.hid eL
  have EK := Lib.hid eK
  clear hk hE hS ex hx hf eL eK hfl
  go_enter Try.func5, Try.ntmps5
  go_wp2_with fail
  refine (works_any w).mono ?_
  rintro e w1 ⟨rfl, hb1⟩
  go_wp2_with fail
  refine (HK.out w1).mono ?_
  rintro e w2 ⟨rfl, hb2⟩
  obtain ⟨cap, O, hcv, hby⟩ := conv_str w2 x
  rw [HXL.out] at hby
  have HB := Lib.hid hby
  have B2 := Lib.hid (bel_trans hb1 hb2)
  clear hby hb1 hb2
  go_wp2_with fail
  rw [hK]
  clear hK hcv
  go_loopw [17] (fun i wr => ∃ (j : Nat) (y : List UInt8), j ≤ 4 ∧ y.length = j ∧ K + j ≤ 16 ∧ i = .int .i64 j ∧ bytesAt wr w2.heap.size (splice L K y) ∧ Below w2.heap.size w2 wr) (fun i _ => 4 - (intOf i).toNat)
  case atStart => exact ⟨0, [], by omega, rfl, by omega, rfl, by rw [splice_nil]; exact HB.out, bel_drew (bel_alloc (Below.refl _ _) _)⟩
  case round =>
    obtain ⟨j, y, hj, hyl, hKj, rfl, hby, hbl⟩ := hrel
    clear HB
    have HB := Lib.hid hby
    have HYL := Lib.hid hyl
    have hspl : (splice L K y).length = 16 + s.size := by rw [splice_len _ _ _ (by omega)]; exact hL
    clear hby hyl
    by_cases h4 : j < 4 ∧ K + j < 16
    · obtain ⟨g1, g2⟩ := h4
      have hd1 : decide ((j : Int) < 4) = true := by simp; omega
      have hd2 : decide ((K : Int) + (j : Int) < 16) = true := by simp; omega
      have hcell := HB.out.cell (K + j) (by omega)
      have hfr := HB.out.frozen (K + j) (by omega)
      have HSL := Lib.hid hspl
      have HL := Lib.hid hL
      clear hspl hL
      go_wp2_with fail
      go_roundw
      case rel =>
        refine ⟨j + 1, y ++ [_], by omega, by rw [List.length_append, HYL.out]; rfl, by omega, by go_num, splice_store HB.out (by rw [HYL.out, HL.out]; omega) (by rw [HYL.out]) _ (wf_bits _ _ _ _), hbl.setCell (Nat.le_refl _) _⟩
      case measure => simp [intOf]; omega
    · obtain ⟨t, et⟩ : ∃ t : ByteArray, ⟨(splice L K y).toArray⟩ = t := ⟨_, rfl⟩
      have htd : t.data.toList = splice L K y := by rw [← et]
      have hts : t.size = 16 + s.size := by rw [← len_data, htd, hspl]
      have hconv := HB.out.conv (16 + s.size) cap hspl
      rw [et] at hconv
      have hb3 := bel_trans B2.out hbl
      have hd1 : (decide ((j : Int) < 4) = true ∧ decide ((K : Int) + (j : Int) < 16) = false) ∨ decide ((j : Int) < 4) = false := by
        by_cases c : j < 4
        · exact .inl ⟨decide_eq_true (by omega), decide_eq_false (by omega)⟩
        · exact .inr (decide_eq_false (by omega))
      have HTD := Lib.hid htd
      have HTS := Lib.hid hts
      have B3 := Lib.hid hb3
      clear hspl et htd hts hb3 hbl B2 h4 HK
      by_cases hq' : t = x
      · subst hq'
        rcases hd1 with ⟨c1, c2⟩ | c1
        all_goals
          go_wp2_with fail
          refine (HRF.out _).mono ?_
          rintro e w4 ⟨rfl, hb4⟩
          go_wp2_with fail
          go_ret
          exact ⟨rfl, bel_alloc (bel_trans B3.out hb4) _⟩
      · have hne : (t.toList == x.toList) = false := by
          rw [beq_eq_false_iff_ne, ByteArray.toList_eq, ByteArray.toList_eq]
          intro h; exact hq' (ba_ext h)
        have hE := HLaw.out y (by rw [HYL.out]; omega) (by rw [HYL.out]; omega) (fun h => hq' (ba_ext (by rw [HTD.out, h, HXL.out])))
        rw [← HTD.out] at hE
        have HR := Lib.hid (read_not t 42 (by rw [HTS.out]; omega) (by decide) hE)
        clear hE
        rcases hd1 with ⟨c1, c2⟩ | c1
        all_goals
          go_wp2_with fail
          refine (HR.out _).mono ?_
          rintro e w4 ⟨rfl, hb4⟩
          go_wp2_with fail
          go_ret
          exact ⟨rfl, bel_alloc (bel_trans B3.out hb4) _⟩

theorem fburst_any (seq : Int) (s : ByteArray) (part a bits : Int) (w : World) (hp : (Lit.int .u8 part).wf = true) (hb : (Lit.int .u32 bits).wf = true) :
    Calls Try.prog 5 #[.int .i64 seq, .string s, .int .u8 part, .int .i64 a, .int .u32 bits] w fun e w' => e = .returned (.bool true) ∧ Below w.heap.size w w' := by
  have hp8 := bounds_u8 hp
  have hb32 := bounds_u32 hb
  obtain ⟨p, rfl⟩ : ∃ p : BitVec 32, bits = p.toNat := ⟨BitVec.ofNat 32 bits.toNat, by rw [BitVec.toNat_ofNat, Nat.mod_eq_of_lt (by omega)]; omega⟩
  by_cases h : 6000 < s.size
  · exact fburst_long seq s part a _ w h
  by_cases hE : mkE seq s = 0
  · have hE' := hE
    unfold mkE at hE'
    by_cases g1 : seq < 0 ∨ 1048576 ≤ seq
    · rw [if_pos g1] at hE'; cases hE'
    rw [if_neg g1] at hE'
    by_cases g2 : s.size = 0
    · rw [if_pos g2] at hE'; cases hE'
    rw [if_neg g2] at hE'
    by_cases g3 : 4096 < s.size
    · rw [if_pos g3] at hE'; cases hE'
    obtain ⟨q, rfl⟩ : ∃ q : Nat, seq = q := ⟨seq.toNat, by omega⟩
    have hm : part % 3 = 0 ∨ part % 3 = 1 ∨ part % 3 = 2 := by omega
    rcases hm with m | m | m
    · exact fburst_0 q s part a p w (by omega) (by omega) (by omega) hp8.1 (by omega) m
    · exact fburst_1 q s part a p w (by omega) (by omega) (by omega) hp8.1 (by omega) m
    · exact fburst_2 q s part a p w (by omega) (by omega) (by omega) hp8.1 (by omega) m
  · exact fburst_bad seq s part a _ w (by omega) hE

end Go.Proofs.Ytkgcjelipllpdaa
