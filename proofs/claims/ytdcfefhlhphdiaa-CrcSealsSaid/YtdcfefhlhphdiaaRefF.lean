/- The walk over the reference soukref01.Forge. -/
import Derived.Test.YtdcfefhlhphdiaaGauss
import Derived.Test.YtdcfefhlhphdiaaRefE
namespace Go.Proofs.Ytdcfefhlhphdiaa
open Go.RowKit

set_option maxHeartbeats 400000 in
theorem rforge_neg (s : ByteArray) (a : Int) (want : BitVec 32) (w : World) (h : a < 0) :
    Calls Try.prog 21 #[.string s, .int .i64 a, .int .u32 want.toNat] w
      fun e w' => e = .returned (.tuple #[.string (bs []), .int .i64 8]) ∧ Below w.heap.size w w' := by
  go_enter Try.func21, Try.ntmps21
  go_wp2_with fail
  go_ret2
  exact ⟨rfl, Below.refl _ _⟩

set_option maxHeartbeats 400000 in
theorem rforge_far (s : ByteArray) (a : Int) (want : BitVec 32) (w : World) (hs : s.size ≤ 1000000000) (h0 : 0 ≤ a) (h : (s.size : Int) - 4 < a) :
    Calls Try.prog 21 #[.string s, .int .i64 a, .int .u32 want.toNat] w
      fun e w' => e = .returned (.tuple #[.string (bs []), .int .i64 8]) ∧ Below w.heap.size w w' := by
  go_enter Try.func21, Try.ntmps21
  go_wp2_with fail
  go_ret2
  exact ⟨rfl, Below.refl _ _⟩

theorem four_n (n : Int) (c : BitVec 32) (x : ByteArray) (w : World) (hn : n = (c.toNat : Int)) (h : bs (four c) = x) :
    Calls Try.prog 35 #[.int .u32 n] w fun e w' => e = .returned (.string x) ∧ Below w.heap.size w w' := by
  subst hn; subst h; exact four_any c w
theorem bit_is (p : BitVec 32) (i : Nat) : (bits .and .u32 ((p.toNat : Int) / 2 ^ i) 1 == 0) = !(p.getLsbD i) := by
  rw [bit_at]; cases p.getLsbD i <;> rfl
theorem word_zero (p : BitVec 32) (h : p = 0#32) : ((p.toNat : Int) == 0) = true := by subst h; rfl
theorem word_pos (p : BitVec 32) (h : p ≠ 0#32) : ((p.toNat : Int) == 0) = false := by
  rw [beq_eq_false_iff_ne]
  intro e
  exact h (BitVec.eq_of_toNat_eq (by rw [BitVec.toNat_zero]; omega))
theorem word_ne (p : BitVec 32) (h : p ≠ 0#32) : ((p.toNat : Int) != 0) = true := by rw [bne, word_pos p h]; rfl
theorem word_eq (p : BitVec 32) (h : p = 0#32) : ((p.toNat : Int) != 0) = false := by rw [bne, word_zero p h]; rfl
theorem bel_undrewN {n : Nat} {w w1 : World} (h : Below (w.drewN n).heap.size (w.drewN n) w1) : Below w.heap.size w w1 := ⟨h.os, h.tape, h.output, h.size, h.block⟩
def rowAt32 (w : World) (b : Nat) (R : Nat → BitVec 32) : Prop := w.heap[b]? = some (.cells (u32s 32 R) 52)
theorem rowAt32.cell {w : World} {b : Nat} {R : Nat → BitVec 32} (h : rowAt32 w b R) (i : Nat) (hi : i < 32) : w.cell? ⟨b, i, none⟩ = some (.int .u32 ((R i).toNat : Int)) := row_cell h hi
theorem rowAt32.frozen {w : World} {b : Nat} {R : Nat → BitVec 32} (h : rowAt32 w b R) (i : Nat) : w.frozen? ⟨b, i, none⟩ = false := frozen_of_row _ _ _ _ _ h
theorem rowAt32.keep {w w' : World} {b : Nat} {R : Nat → BitVec 32} (h : rowAt32 w b R) (hb : Below w.heap.size w w') : rowAt32 w' b R := row_keep h hb
theorem rowAt32.store {w : World} {b : Nat} {R : Nat → BitVec 32} (h : rowAt32 w b R) (i : Nat) (x : BitVec 32) : rowAt32 (w.setCell ⟨b, i, none⟩ (.int .u32 (x.toNat : Int))) b (fupd R i x) := by
  unfold rowAt32; rw [heap_setCell_same _ _ _ _ _ _ h, set_u32s]
theorem rowAt32.other {w : World} {b d : Nat} {R : Nat → BitVec 32} (h : rowAt32 w b R) (hd : b ≠ d) (i : Nat) (v : Value) : rowAt32 (w.setCell ⟨d, i, none⟩ v) b R := by
  unfold rowAt32; rw [heap_setCell_other _ _ _ _ hd]; exact h

set_option maxRecDepth 100000 in
set_option maxHeartbeats 2000000 in
theorem rforge_ok (s : ByteArray) (a : Nat) (want : BitVec 32) (w : World) (hs : s.size ≤ 1000000) (h : a + 4 ≤ s.size) :
    Calls Try.prog 21 #[.string s, .int .i64 a, .int .u32 want.toNat] w
      fun e w' => e = .returned (.tuple #[.string (bs (forgeL s.data.toList a want)), .int .i64 0]) ∧ Below w.heap.size w w' := by
  obtain ⟨H, hH⟩ : ∃ H, s.extract 0 a = H := ⟨_, rfl⟩
  obtain ⟨T, hT⟩ : ∃ T, s.extract (a + 4) s.size = T := ⟨_, rfl⟩
  have hHd : H.data.toList = s.data.toList.take a := by rw [← hH]; simp
  have hTd : T.data.toList = s.data.toList.drop (a + 4) := by
    rw [← hT]; simp
    exact List.take_of_length_le (by simp)
  have hHs : H.size ≤ 1000000 := by rw [← hH]; simp; omega
  have hTs : T.size ≤ 1000000 := by rw [← hT]; simp; omega
  obtain ⟨x0, hx0⟩ : ∃ x, bs (four 0#32) = x := ⟨_, rfl⟩
  have hx0s : x0.size = 4 := by rw [← hx0]; rfl
  have hx0d : x0.data.toList = four 0#32 := by rw [← hx0, bs_data]
  obtain ⟨c0, hc0⟩ : ∃ c, crc (H ++ x0 ++ T).data.toList = c := ⟨_, rfl⟩
  have L0 := Lib.hid (show (H ++ x0 ++ T).size ≤ 1000000000 by simp only [ByteArray.size_append']; omega)
  have HX0 := Lib.hid hx0
  have HC0 := Lib.hid hc0
  have HC1 := Lib.hid (show crc (s.data.toList.take a ++ four 0#32 ++ s.data.toList.drop (a + 4)) = c0 by rw [← hHd, ← hTd, ← hx0d, ← data_app, ← data_app]; exact hc0)
  have HHd := Lib.hid hHd
  have HTd := Lib.hid hTd
  have f1 : (0 : Int) ≤ (a : Int) + 4 := by omega
  have f2 : (a : Int) + 4 ≤ (s.size : Int) := by omega
  have f3 : ((a : Int) + 4).toNat = a + 4 := by omega
  have f4 : IntKind.i64.wrap ((a : Int) + 4) = (a : Int) + 4 := IntWalk.i64_in _ (by omega)
  have f5 : (0 : Int) ≤ (a : Int) := by omega
  have f6 : (a : Int) ≤ (s.size : Int) := by omega
  have hda : decide ((a : Int) < 0) = false := by simp
  have hdb : decide ((s.size : Int) - 4 < (a : Int)) = false := by simp; omega
  clear hx0 hx0d hc0 hHd hTd
  go_enter Try.func21, Try.ntmps21
  go_wp2_with fail
  go_quiet (fail)
  clear f1 f2 f3 f4 f5 f6 hH hT
  go_wp2_with fail
  refine (four_n 0 0#32 x0 _ rfl HX0.out).mono ?_
  rintro e w3 ⟨rfl, hb3⟩
  go_wp2_with fail
  with_reducible refine (rof_to _ _ _ L0.out HC0.out).mono ?_
  rintro e w4 ⟨rfl, rfl⟩
  have hz := zero_32
  go_wp2_with fail
  clear hz
  have hb4 : Below w.heap.size w ((w3.alloc (.cells (u32s 32 zf) 52)).alloc (.cells (u32s 32 zf) 52)) := bel_alloc (bel_alloc (bel_undrewN hb3) _) _
  have hr1 : rowAt32 ((w3.alloc (.cells (u32s 32 zf) 52)).alloc (.cells (u32s 32 zf) 52)) w3.heap.size zf := heap_alloc2_old _ _ _
  have hr2 : rowAt32 ((w3.alloc (.cells (u32s 32 zf) 52)).alloc (.cells (u32s 32 zf) 52)) (w3.heap.size + 1) zf := heap_alloc2_new _ _ _
  have hp1 : w.heap.size ≤ w3.heap.size := (bel_undrewN hb3).size
  generalize (w3.alloc (.cells (u32s 32 zf) 52)).alloc (.cells (u32s 32 zf) 52) = wq at *
  obtain ⟨p2, hp2⟩ : ∃ p, w3.heap.size + 1 = p := ⟨_, rfl⟩
  rw [hp2] at hr2 ⊢
  generalize w3.heap.size = p1 at *
  have hp12 : p1 < p2 := by omega
  have HB4 := Lib.hid hb4
  have HR1 := Lib.hid hr1
  have HR2 := Lib.hid hr2
  clear hb4 hr1 hr2 hp2 hb3
  obtain ⟨N, hN⟩ : ∃ N, N = 32 + 8 * (s.data.toList.drop (a + 4)).length := ⟨_, rfl⟩
  have HN := Lib.hid hN
  clear hN
  go_loopw [13] (fun y wr => ∃ (j : Nat) (R B : Nat → BitVec 32), j ≤ 32 ∧ y = .int .i64 j ∧ Inv N j R B ∧ rowAt32 wr p1 R ∧ rowAt32 wr p2 B ∧ Below w.heap.size w wr) (fun y _ => 32 - (intOf y).toNat)
  case atStart => exact ⟨0, zf, zf, by omega, rfl, Inv.start N, HR1.out, HR2.out, HB4.out⟩
  case round =>
    obtain ⟨j, R, B, hj, rfl, hinv, hr1, hr2, hbl⟩ := hrel
    clear HR1 HR2 HB4
    have HI := Lib.hid hinv
    have HR1 := Lib.hid hr1
    have HR2 := Lib.hid hr2
    clear hinv hr1 hr2
    by_cases hj32 : j < 32
    · obtain ⟨xj, hxj⟩ : ∃ x, bs (four (1#32 <<< j)) = x := ⟨_, rfl⟩
      have hxs : xj.size = 4 := by rw [← hxj]; rfl
      have hxd : xj.data.toList = four (1#32 <<< j) := by rw [← hxj, bs_data]
      obtain ⟨d, hd⟩ : ∃ c, crc (H ++ xj ++ T).data.toList = c := ⟨_, rfl⟩
      have LJ := Lib.hid (show (H ++ xj ++ T).size ≤ 1000000000 by simp only [ByteArray.size_append']; omega)
      have hxr : xr d c0 = up N (1#32 <<< j) := by
        rw [← hd, data_app, data_app, HHd.out, hxd, HTd.out, crc_mid, HC1.out, HN.out]
        unfold xr
        rw [show ∀ y : BitVec 32, c0 ^^^ y ^^^ c0 = y ^^^ (c0 ^^^ c0) from fun y => by ac_rfl, BitVec.xor_self, BitVec.xor_zero]
      have HXJ := Lib.hid hxj
      have HD := Lib.hid hd
      have HJ1 := Lib.hid (one_shl j hj32)
      have hone := one_shl j hj32
      have hdj : decide ((j : Int) < 32) = true := by simp; omega
      clear hxj hxd hd
      go_wp2_with fail
      refine (four_n _ (1#32 <<< j) xj _ rfl HXJ.out).mono ?_
      rintro e w5 ⟨rfl, hb5⟩
      have HR5 := Lib.hid (HR1.out.keep hb5)
      have HS5 := Lib.hid (HR2.out.keep hb5)
      go_wp2_with fail
      with_reducible refine (rof_to _ _ _ LJ.out HD.out).mono ?_
      rintro e w6 ⟨rfl, rfl⟩
      go_wp2_with fail
      clear hxr hone
      have HB5 := Lib.hid (bel_trans hbl hb5)
      clear hbl hb5
      go_loopw [14, 15, 16] (fun v m y wr => ∃ (c : Nat) (vv mm : BitVec 32) (R B : Nat → BitVec 32), c ≤ 32 ∧ y = .int .i64 ((c : Int) - 1) ∧ v = .int .u32 vv.toNat ∧ m = .int .u32 mm.toNat ∧ Mid N j c vv mm R B ∧ rowAt32 wr p1 R ∧ rowAt32 wr p2 B ∧ Below w.heap.size w wr) (fun _ _ y _ => (intOf y + 1).toNat)
      case atStart => exact ⟨32, _, _, R, B, by omega, rfl, rfl, by rw [HJ1.out], Mid.start HI.out hj32, HR5.out, HS5.out, HB5.out⟩
      case round =>
        obtain ⟨c, v, m, R', B', hc, rfl, rfl, rfl, hmid, hr1, hr2, hbl⟩ := hrel
        clear HR5 HS5 HB5 HR1 HR2 HI
        have HM := Lib.hid hmid
        have HR1 := Lib.hid hr1
        have HR2 := Lib.hid hr2
        clear hmid hr1 hr2
        by_cases hc0 : c = 0
        · subst hc0
          go_wp2_with fail
          go_roundw
          case rel => exact ⟨j + 1, R', B', by omega, by go_num, Mid.done HM.out (Or.inl rfl), HR1.out, HR2.out, hbl⟩
          case measure => simp [intOf]; omega
        · obtain ⟨b, rfl⟩ : ∃ b, c = b + 1 := ⟨c - 1, by omega⟩
          have e1 : ((b + 1 : Nat) : Int) - 1 = (b : Int) := by omega
          rw [e1]
          have hb32 : b < 32 := by omega
          have hb0 : (0 : Int) ≤ (b : Int) := by omega
          have hdb0 : decide ((0 : Int) ≤ (b : Int)) = true := by simp
          clear hc0 e1
          by_cases hv : v = 0#32
          · have hve := word_eq v hv
            have HV := Lib.hid hv
            clear hv
            go_wp2_with fail
            go_roundw
            case rel => exact ⟨j + 1, R', B', by omega, by go_num, Mid.done HM.out (Or.inr HV.out), HR1.out, HR2.out, hbl⟩
            case measure => simp [intOf]; omega
          · have hve := word_ne v hv
            have hbit := bit_is v b
            cases hvb : v.getLsbD b
            · rw [hvb] at hbit
              have HVB := Lib.hid hvb
              clear hv hvb
              go_wp2_with fail
              go_roundw
              case rel => exact ⟨b, v, m, R', B', by omega, by go_num, rfl, rfl, HM.out.skip HVB.out, HR1.out, HR2.out, hbl⟩
              case measure => simp [intOf]
            · rw [hvb] at hbit
              have HVB := Lib.hid hvb
              have hcl1 := HR1.out.cell b hb32
              have hcl2 := HR2.out.cell b hb32
              have hfz1 := HR1.out.frozen b
              have hfz2 := HR2.out.frozen b
              clear hv hvb
              by_cases hR : R' b = 0#32
              · have hrz := word_zero _ hR
                have HR := Lib.hid hR
                clear hR
                go_wp2_with fail
                go_roundw
                case rel => exact ⟨b, 0#32, m, _, _, by omega, by go_num, rfl, rfl, HM.out.insert hb32 HVB.out HR.out, (HR1.out.store b v).other (by omega) b _, (HR2.out.other (by omega) b _).store b m, (hbl.setCell hp1 _).setCell (by show w.heap.size ≤ p2; omega) _⟩
                case measure => simp [intOf]
              · have hrz := word_pos _ hR
                have HR := Lib.hid hR
                clear hR
                go_wp2_with fail
                go_roundw
                case rel => exact ⟨b, _, _, R', B', by omega, by go_num, rfl, rfl, HM.out.reduce hj32 hb32 HVB.out HR.out, HR1.out, HR2.out, hbl⟩
                case measure => simp [intOf]
    · obtain rfl : j = 32 := by omega
      go_wp2_with fail
      rw [show (((32 : Nat) : Int)) = (32 : Int) from rfl]
      go_loop [17, 18, 19] (fun l m y => ∃ (c : Nat) (left ww : BitVec 32), c ≤ 32 ∧ y = .int .i64 ((c : Int) - 1) ∧ l = .int .u32 left.toNat ∧ m = .int .u32 ww.toNat ∧ Rest N c (xr want c0) left ww) (fun _ _ y => (intOf y + 1).toNat)
      case atStart => exact ⟨32, _, 0#32, by omega, rfl, rfl, rfl, Rest.start N _⟩
      case round =>
        obtain ⟨c, left, m, hc, rfl, rfl, rfl, hrest⟩ := hrel
        have HM := Lib.hid hrest
        clear hrest
        by_cases hc0 : c = 0
        · subst hc0
          obtain ⟨y, hy⟩ : ∃ y, bs (four m) = y := ⟨_, rfl⟩
          have hys : y.size = 4 := by rw [← hy]; rfl
          have hyd : y.data.toList = four m := by rw [← hy, bs_data]
          have HFIN := Lib.hid (show bs (forgeL s.data.toList a want) = H ++ y ++ T by
            apply ba_ext
            rw [bs_data, data_app, data_app, hyd, HHd.out, HTd.out]
            exact (gauss_forge s.data.toList a want m c0 HC1.out (by rw [← HN.out]; exact Rest.done HM.out)).symm)
          have HY := Lib.hid hy
          clear hy hyd
          go_wp2_with fail
          refine (four_n _ m y _ rfl HY.out).mono ?_
          rintro e w7 ⟨rfl, hb7⟩
          go_wp2_with fail
          go_ret2
          refine ⟨?_, bel_trans hbl hb7⟩
          rw [HFIN.out]
          rfl
        · obtain ⟨b, rfl⟩ : ∃ b, c = b + 1 := ⟨c - 1, by omega⟩
          have e1 : ((b + 1 : Nat) : Int) - 1 = (b : Int) := by omega
          rw [e1]
          have hb32 : b < 32 := by omega
          have hb0 : (0 : Int) ≤ (b : Int) := by omega
          have hdb0 : decide ((0 : Int) ≤ (b : Int)) = true := by simp
          clear hc0 e1
          cases hvb : left.getLsbD b
          · have hbit := bit_false left b hvb
            have HVB := Lib.hid hvb
            clear hvb
            go_wp2_with fail
            go_round
            case rel => exact ⟨b, _, _, by omega, by go_num, rfl, rfl, HM.out.skip HVB.out⟩
            case measure => simp [intOf]
          · have hbit := bit_true left b hvb
            have HVB := Lib.hid hvb
            have hcl1 := HR1.out.cell b hb32
            have hcl2 := HR2.out.cell b hb32
            clear hvb
            go_wp2_with fail
            go_round
            case rel => exact ⟨b, _, _, by omega, by go_num, rfl, rfl, HM.out.reduce HI.out hb32 HVB.out⟩
            case measure => simp [intOf]

end Go.Proofs.Ytdcfefhlhphdiaa
