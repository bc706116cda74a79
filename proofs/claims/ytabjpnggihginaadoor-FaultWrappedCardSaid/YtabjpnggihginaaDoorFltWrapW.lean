/- The walk of FaultWrapped. -/
import Derived.Test.YtabjpnggihginaaDoorFltTextW
import Derived.Test.YtabjpnggihginaaDoorFltLc
namespace Go.Proofs.YtabjpnggihginaaDoor
open Go.RowKit Go.Extern.Stop Go.Stop Go.Extern Go.Shelf

theorem txt_drop (F : Int → ByteArray) (bt : ByteArray) : ∀ (z : List Wr) (k : Nat), (txt F bt (z.drop k)).size ≤ (txt F bt z).size
  | [], k => by simp
  | x :: z, 0 => by simp
  | x :: z, k + 1 => by
    rw [List.drop_succ_cons, txt, ByteArray.size_append]
    have := txt_drop F bt z k
    omega
theorem heap_on {w w' : World} {k : Nat} {o : Obj} (h : w.heap[k]? = some o) (hb : Below w.heap.size w w') : w'.heap[k]? = some o :=
  (hb.block k (Array.getElem?_eq_some_iff.1 h).1).trans h

set_option maxRecDepth 20000 in
set_option maxHeartbeats 8000000 in
theorem wrapped_law (F : Int → ByteArray) (ok : Int → Prop) (hok : ∀ n, -9223372036854775808 ≤ n ∧ n ≤ 9223372036854775807 → ok n) (a : Option Addr) (len cap : Nat) (z : List Wr) (n m : Int) (hn : -9223372036854775808 ≤ n ∧ n ≤ 9223372036854775807) (w : World) (hF : FmtS w F ok) (hT : ErrT w) (h : WrsIn w a len cap z) :
    Calls Tryd.prog 7 #[.slice a len cap, .int .i64 n, .int .i64 m] w fun e w' => e = .returned (.bool true) ∧ Below w.heap.size w w' := by
  have hB : Base (.iface 23 (.int .i64 n)) := .inl ⟨n, rfl⟩
  have hz : ∀ x ∈ z, 0 ≤ x.pl → ok x.pl := fun x hx _ => hok _ (h.2.2.2.1 x hx)
  have hsz : ∀ x ∈ z, 0 ≤ x.pl → (F x.pl).size ≤ 21 := fun x hx hp => (hF.1 _ (hz x hx hp)).1
  have hnz := (hF.1 _ (hok n hn)).1
  have HL := Lib.hid h.1
  have HF := Lib.hid hF
  have HT := Lib.hid hT
  have HZ := Lib.hid h
  clear hF hT h
  go_enter Tryd.func7, Tryd.ntmps7
  go_wp2_with fail
  refine (works_any F ok _ HF.out HT.out).mono ?_
  rintro e w1 ⟨rfl, hb1⟩
  have HB1 := Lib.hid hb1
  clear hb1
  go_wp2_with fail
  refine (heavy_any a len cap z _ (HZ.out.keep HB1.out)).mono ?_
  rintro e w2 ⟨rfl, hb2⟩
  have HB2 := Lib.hid (bel_trans HB1.out hb2)
  clear hb2 HB1
  by_cases hv : 5000 ≤ hvy 0 z
  · rw [decide_eq_true hv]
    clear hv
    go_wp2_with fail
    refine (works_any F ok _ (HF.out.keep HB2.out) (HT.out.keep HB2.out)).mono ?_
    rintro e w3 ⟨rfl, hb3⟩
    have HB3 := Lib.hid (bel_trans HB2.out hb3)
    clear hb3 HB2
    go_wp2_with fail
    go_ret
    exact ⟨rfl, HB3.out⟩
  · rw [decide_eq_false hv]
    have hbt : (baT F (.iface 23 (.int .i64 n))).size ≤ 33 := by
      show (seB ++ F n).size ≤ 33
      rw [ByteArray.size_append]; have : seB.size = 12 := rfl; omega
    have hts := txt_le F (baT F (.iface 23 (.int .i64 n))) z 0 (by omega) hsz
    have HTS := Lib.hid (show ∀ k, (txt F (baT F (.iface 23 (.int .i64 n))) (z.drop k)).size ≤ 1000000000 from fun k => by have := txt_drop F (baT F (.iface 23 (.int .i64 n))) z k; omega)
    have HLn := Lib.hid (show z.length ≤ 1000 by have := hvy_len z 0 (by omega); omega)
    have HZk := Lib.hid (show ∀ k, ∀ x ∈ z.drop k, 0 ≤ x.pl → ok x.pl from fun k x hx => hz x (List.mem_of_mem_drop hx))
    have HOK := Lib.hid (show ∀ n', (Value.iface 23 (.int .i64 n)) = .iface 23 (.int .i64 n') → ok n' from fun n' e => by cases e; exact hok n hn)
    obtain ⟨q, hq⟩ : ∃ q, ofC n = q := ⟨_, rfl⟩
    have HQ4 := Lib.hid (show q ≤ 4 by rw [← hq]; exact ofC_le n)
    have HQ := Lib.hid hq
    have hlen : len ≤ 1000 := by have := HLn.out; have := HL.out; omega
    clear hts hbt hv hz hsz hnz hq hok hn
    go_wp2_with fail
    go_loopw [7, 8] (fun v iv wr => ∃ (k : Nat), k ≤ len ∧ iv = .int .i64 ((k : Int) - 1) ∧ Chn wr (.iface 23 (.int .i64 n)) (z.drop k) v ∧ Below w.heap.size w wr) (fun _ iv _ => (intOf iv + 1).toNat)
    case atStart => exact ⟨len, Nat.le_refl _, rfl, by rw [List.drop_of_length_le (by rw [HL.out]; exact Nat.le_refl _)]; rfl, HB2.out⟩
    case round =>
      obtain ⟨k, hk, rfl, hch, hb⟩ := hrel
      clear HB2
      cases k with
      | zero =>
        have HB := Lib.hid hb
        clear hch hb
        go_wp2_with fail
        go_ret
        exact ⟨rfl, HB.out⟩
      | succ k =>
        obtain ⟨x, hx⟩ : ∃ x, z[k]? = some x := ⟨_, List.getElem?_eq_getElem (by rw [HL.out]; omega)⟩
        rcases HZ.out.2.2.2.2 with h0 | ⟨b, off, rfl, hbl, hcells⟩
        · omega
        have HBL := Lib.hid hbl
        have HX := Lib.hid (hcells k x hx)
        have HDr := Lib.hid (show z.drop k = x :: z.drop (k + 1) by
          rw [List.drop_eq_getElem_cons (by rw [HL.out]; omega)]
          rw [List.getElem?_eq_getElem (by rw [HL.out]; omega)] at hx
          rw [Option.some.inj hx])
        obtain ⟨t, y, rfl⟩ := hch.iface
        have hT1 := HTS.out (k + 1)
        have hZ1 := HZk.out (k + 1)
        have hL1 : (z.drop (k + 1)).length ≤ 1000000 := by have := HLn.out; simp; omega
        obtain ⟨S, eS⟩ : ∃ S, txt F (baT F (.iface 23 (.int .i64 n))) (z.drop (k + 1)) = S := ⟨_, rfl⟩
        obtain ⟨zz, ez⟩ : ∃ zz, z.drop (k + 1) = zz := ⟨_, rfl⟩
        rw [ez] at hch HDr hZ1 hL1 hT1 eS
        have HS := Lib.hid eS
        have HT1 := Lib.hid hT1
        have HZ1 := Lib.hid hZ1
        have HL1 := Lib.hid hL1
        have g0 : (0 : Int) ≤ (k : Int) := by omega
        have g1 : (k : Int) < (len : Int) := by omega
        have d2 : decide ((0 : Int) ≤ (k : Int)) = true := decide_eq_true (by omega)
        rw [show (((k + 1 : Nat) : Int) - 1) = (k : Int) by omega]
        have HC := Lib.hid hch
        have HB := Lib.hid hb
        clear hcells hch hb hx hbl eS ez hT1 hZ1 hL1
        go_wp2_with fail
        refine (ops_any zz _ hB _ wr HC.out (HT.out.keep HB.out) HL1.out).mono ?_
        rintro e w3 ⟨oa, ocap, rfl, ho, hb3⟩
        have HC3 := Lib.hid (HC.out.on hb3)
        have HB3 := Lib.hid (bel_trans HB.out hb3)
        clear hb3 ho HC HB
        go_wp2_with fail
        have HXX := Lib.hid (text_any F ok _ hB HOK.out zz _ w3 HC3.out (HF.out.1.keep HB3.out) HZ1.out HT1.out)
        rw [HS.out] at HXX
        refine HXX.out.mono ?_
        rintro e w4 ⟨rfl, hb4⟩
        have HC4 := Lib.hid (HC3.out.on hb4)
        have HB4 := Lib.hid (bel_trans HB3.out hb4)
        clear hb4 HXX HC3 HB3
        have z0 := (HB4.out.cell (p := ⟨b, off + k * 3, none⟩) HBL.out).trans HX.out.1
        have z1 := (HB4.out.cell (p := ⟨b, off + k * 3 + 1, none⟩) HBL.out).trans HX.out.2.1
        have z2 := (HB4.out.cell (p := ⟨b, off + k * 3 + 2, none⟩) HBL.out).trans HX.out.2.2
        go_wp2_with fail
        go_still_tail 16, (by kernel_rfl)
        change wpList _ _ _ _ _ w4.drew
        have HC5 := Lib.hid (show Chn w4.drew (.iface 23 (.int .i64 n)) zz (.iface t y) from HC4.out.keep (fun _ _ => rfl))
        have HB5 := Lib.hid HB4.out.drew
        obtain ⟨w5, e5⟩ : ∃ w5, w4.drew = w5 := ⟨_, rfl⟩
        rw [e5] at HC5 HB5 ⊢
        clear HC4 HB4 z0 z1 z2 e5
        go_wp2_with fail
        refine (wrap_any t y x.op x.nm x.pl w5).mono ?_
        rintro e w6 ⟨rfl, e6⟩
        have HR6 := Lib.hid (show w6.heap[w5.heap.size]? = some (.cells #[.string x.op, .string x.nm, .int .i64 x.pl, .iface t y] 57) by rw [e6]; exact World.alloc_heap_new _ _)
        have HC6 := Lib.hid (show Chn w6 (.iface 23 (.int .i64 n)) zz (.iface t y) by rw [e6]; exact HC5.out.keep (fun _ hk => Below.heap_alloc _ _ _ hk))
        have HB6 := Lib.hid (show Below w.heap.size w w6 by rw [e6]; exact HB5.out.alloc HB5.out.size _)
        clear HC5 HB5 e6
        generalize w5.heap.size = p at *
        go_wp2_with fail
        refine (ops_any (x :: zz) _ hB _ w6 ⟨p, _, rfl, HR6.out, HC6.out⟩ (HT.out.keep HB6.out) (by have := HLn.out; have := congrArg List.length HDr.out; simp at this ⊢; omega)).mono ?_
        rintro e w7 ⟨oa7, cap7, rfl, ho, hb7⟩
        obtain ⟨g7, rfl, hcap7, hc7⟩ := own_cells ho (by simp)
        have HR7 := Lib.hid (heap_on HR6.out hb7)
        have HC7 := Lib.hid (HC6.out.on hb7)
        have HB7 := Lib.hid (bel_trans HB6.out hb7)
        have HQ7 := Lib.hid (show w7.cell? ⟨g7, 0, none⟩ = some (.string x.op) from hc7 0 _ rfl)
        clear hb7 ho hc7 hcap7 HR6 HC6 HB6
        go_wp2_with fail
        refine (code_int (x :: zz) n _ w7 ⟨p, _, rfl, HR7.out, HC7.out⟩ (HT.out.keep HB7.out)).mono ?_
        rintro e w8 ⟨rfl, hb8⟩
        have HR8 := Lib.hid (heap_on HR7.out hb8)
        have HC8 := Lib.hid (HC7.out.on hb8)
        have HB8 := Lib.hid (bel_trans HB7.out hb8)
        have q0 := cellK HQ7.out hb8
        have x0 := (HB8.out.cell (p := ⟨b, off + k * 3, none⟩) HBL.out).trans HX.out.1
        have HVe := Lib.hid (show ∀ c, Calls Tryd.prog 20 #[.iface 55 (.pointer (some ⟨p, 0, none⟩)), .int .i64 n] (w8.drewN c) fun r w' => r = .returned (.bool true) ∧ w' = w8.drewN c from
          fun c => (isF_int (x :: zz) n n _ (w8.drewN c) ⟨p, _, rfl, HR8.out, HC8.out.keep (fun _ _ => rfl)⟩).mono (by rintro e w' ⟨rfl, rfl⟩; exact ⟨by simp, rfl⟩))
        have hzl : zz.length ≤ 1000 := by have := HLn.out; have h2 := congrArg List.length HDr.out; simp at h2; omega
        clear hb8 HQ7 HR7 HC7 HB7
        obtain ⟨b0, hb0⟩ : ∃ b0, (m == n) = b0 := ⟨_, rfl⟩
        have hb1 : (m != n) = !b0 := by rw [bne, hb0]
        have HVm := Lib.hid (show ∀ c, Calls Tryd.prog 20 #[.iface 55 (.pointer (some ⟨p, 0, none⟩)), .int .i64 m] (w8.drewN c) fun r w' => r = .returned (.bool b0) ∧ w' = w8.drewN c from
          fun c => (isF_int (x :: zz) n m _ (w8.drewN c) ⟨p, _, rfl, HR8.out, HC8.out.keep (fun _ _ => rfl)⟩).mono (by rintro e w' ⟨rfl, rfl⟩; exact ⟨by rw [show (n == m) = (m == n) from BEq.comm, hb0], rfl⟩))
        cases b0
        all_goals
          simp only [Bool.not_false, Bool.not_true] at hb1
          go_wp2_with fail
          go_quiet ((go_at_call 20; first | exact Calls.quiet_of_same (HVe.out _) | exact Calls.quiet_of_same (HVm.out _)))
          have HR9 := Lib.hid (show (w8.drewN nq).heap[p]? = some (.cells #[.string x.op, .string x.nm, .int .i64 x.pl, .iface t y] 57) from HR8.out)
          have HC9 := Lib.hid (show Chn (w8.drewN nq) (.iface 23 (.int .i64 n)) zz (.iface t y) from HC8.out.keep (fun _ _ => rfl))
          have HB9 := Lib.hid (show Below w.heap.size w (w8.drewN nq) from ⟨HB8.out.os, HB8.out.tape, HB8.out.output, HB8.out.size, HB8.out.block⟩)
          generalize w8.drewN nq = w9 at HR9 HC9 HB9 ⊢
          clear HR8 HC8 HB8 q0 x0 HVe HVm hb0 hb1
          go_wp2_with fail
          refine (inner_any p x _ w9 HR9.out).mono ?_
          rintro e w10 ⟨rfl, rfl⟩
          go_wp2_with fail
          refine (code_int zz n _ w10 HC9.out (HT.out.keep HB9.out)).mono ?_
          rintro e w11 ⟨rfl, hb⟩
          have HR11 := Lib.hid (heap_on HR9.out hb)
          have HC11 := Lib.hid (HC9.out.on hb)
          have HB11 := Lib.hid (bel_trans HB9.out hb)
          clear hb HR9 HC9 HB9
          go_wp2_with fail
          refine (inner_any p x _ w11 HR11.out).mono ?_
          rintro e w12 ⟨rfl, rfl⟩
          go_wp2_with fail
          have HXX := Lib.hid (text_any F ok _ hB HOK.out zz _ w12 HC11.out (HF.out.1.keep HB11.out) HZ1.out HT1.out)
          rw [HS.out] at HXX
          refine HXX.out.mono ?_
          rintro e w13 ⟨rfl, hb⟩
          have HR13 := Lib.hid (heap_on HR11.out hb)
          have HC13 := Lib.hid (HC11.out.on hb)
          have HB13 := Lib.hid (bel_trans HB11.out hb)
          clear hb HXX HR11 HC11 HB11
          go_wp2_with fail
          refine (inner_any p x _ w13 HR13.out).mono ?_
          rintro e w14 ⟨rfl, rfl⟩
          go_wp2_with fail
          refine (ops_any zz _ hB _ w14 HC13.out (HT.out.keep HB13.out) HL1.out).mono ?_
          rintro e w15 ⟨oa15, cap15, rfl, ho, hb⟩
          have HR15 := Lib.hid (heap_on HR13.out hb)
          have HC15 := Lib.hid (HC13.out.on hb)
          have HB15 := Lib.hid (bel_trans HB13.out hb)
          clear hb ho HR13 HC13 HB13
          go_wp2_with fail
          go_loopw [16, 17] (fun inv cv wr => ∃ c : Nat, c ≤ 5 ∧ cv = .int .u8 c ∧ inv = .int .i64 (if q < c then 1 else 0) ∧ Below w15.heap.size w15 wr) (fun _ cv _ => 5 - (intOf cv).toNat)
          case atStart => exact ⟨0, by omega, rfl, by simp, Below.refl _ _⟩
          case round =>
            obtain ⟨c, hc5, rfl, rfl, hb⟩ := hrel
            have HRwr := Lib.hid (heap_on HR15.out hb)
            have HCwr := Lib.hid (HC15.out.on hb)
            have HBwr := Lib.hid (bel_trans HB15.out hb)
            have HDwr := Lib.hid hb
            clear hb
            by_cases hin : c < 5
            · have dl : decide ((c : Int) ≤ 4) = true := decide_eq_true (by omega)
              have hw8 : IntKind.u8.wrap ((c : Int) + 1) = (c : Int) + 1 := by simp [IntKind.wrap, IntKind.bits, IntKind.signed]; omega
              by_cases hqc : q = c
              · have E1 := Lib.hid (show decide (ofC n = c) = true from decide_eq_true (HQ.out.trans hqc))
                have e2 : ((q : Int) == (c : Int)) = true := by rw [hqc]; simp
                rw [show (if q < c then (1 : Int) else 0) = 0 from if_neg (by omega)]
                go_wp2_with fail
                refine (in_int (x :: zz) n _ c (by omega) _ ⟨p, _, rfl, HRwr.out, HCwr.out⟩ (HT.out.keep HBwr.out)).mono ?_
                rintro e wa ⟨rfl, hb⟩
                have HRwa := Lib.hid (heap_on HRwr.out hb)
                have HCwa := Lib.hid (HCwr.out.on hb)
                have HBwa := Lib.hid (bel_trans HBwr.out hb)
                have HDwa := Lib.hid (bel_trans HDwr.out hb)
                clear hb HRwr HCwr HBwr HDwr
                rw [E1.out]
                go_wp2_with fail
                refine (in_int (x :: zz) n _ c (by omega) _ ⟨p, _, rfl, HRwa.out, HCwa.out⟩ (HT.out.keep HBwa.out)).mono ?_
                rintro e wb ⟨rfl, hb⟩
                have HRwb := Lib.hid (heap_on HRwa.out hb)
                have HCwb := Lib.hid (HCwa.out.on hb)
                have HBwb := Lib.hid (bel_trans HBwa.out hb)
                have HDwb := Lib.hid (bel_trans HDwa.out hb)
                clear hb HRwa HCwa HBwa HDwa
                rw [E1.out]
                go_wp2_with fail
                refine (of_any n _).mono ?_
                rintro e wbb ⟨rfl, rfl⟩
                rw [HQ.out]
                go_wp2_with fail
                refine (asked_cls p x zz n _ c (by omega) _ HRwb.out HCwb.out (HT.out.keep HBwb.out)).mono ?_
                rintro e wc ⟨rfl, hb⟩
                have HRwc := Lib.hid (heap_on HRwb.out hb)
                have HCwc := Lib.hid (HCwb.out.on hb)
                have HBwc := Lib.hid (bel_trans HBwb.out hb)
                have HDwc := Lib.hid (bel_trans HDwb.out hb)
                clear hb HRwb HCwb HBwb HDwb
                rw [E1.out]
                go_wp2_with fail
                refine (of_any n _).mono ?_
                rintro e wcc ⟨rfl, rfl⟩
                rw [HQ.out]
                go_wp2_with fail
                go_roundw
                case rel => exact ⟨c + 1, by omega, by go_num, by rw [if_pos (by omega)], HDwc.out⟩
                case measure => simp [intOf]; omega
              · have E1 := Lib.hid (show decide (ofC n = c) = false from decide_eq_false (fun h => hqc (HQ.out.symm.trans h)))
                have e2 : ((q : Int) == (c : Int)) = false := by rw [beq_eq_false_iff_ne]; omega
                have E0 := Lib.hid (show (if q < c + 1 then (1 : Int) else 0) = (if q < c then (1 : Int) else 0) by
                  by_cases hl : q < c
                  · rw [if_pos hl, if_pos (by omega)]
                  · rw [if_neg hl, if_neg (by omega)])
                generalize (if q < c then (1 : Int) else 0) = j at E0 ⊢
                go_wp2_with fail
                refine (in_int (x :: zz) n _ c (by omega) _ ⟨p, _, rfl, HRwr.out, HCwr.out⟩ (HT.out.keep HBwr.out)).mono ?_
                rintro e wa ⟨rfl, hb⟩
                have HRwa := Lib.hid (heap_on HRwr.out hb)
                have HCwa := Lib.hid (HCwr.out.on hb)
                have HBwa := Lib.hid (bel_trans HBwr.out hb)
                have HDwa := Lib.hid (bel_trans HDwr.out hb)
                clear hb HRwr HCwr HBwr HDwr
                rw [E1.out]
                go_wp2_with fail
                refine (in_int (x :: zz) n _ c (by omega) _ ⟨p, _, rfl, HRwa.out, HCwa.out⟩ (HT.out.keep HBwa.out)).mono ?_
                rintro e wb ⟨rfl, hb⟩
                have HRwb := Lib.hid (heap_on HRwa.out hb)
                have HCwb := Lib.hid (HCwa.out.on hb)
                have HBwb := Lib.hid (bel_trans HBwa.out hb)
                have HDwb := Lib.hid (bel_trans HDwa.out hb)
                clear hb HRwa HCwa HBwa HDwa
                rw [E1.out]
                go_wp2_with fail
                refine (of_any n _).mono ?_
                rintro e wbb ⟨rfl, rfl⟩
                rw [HQ.out]
                go_wp2_with fail
                refine (asked_cls p x zz n _ c (by omega) _ HRwb.out HCwb.out (HT.out.keep HBwb.out)).mono ?_
                rintro e wc ⟨rfl, hb⟩
                have HRwc := Lib.hid (heap_on HRwb.out hb)
                have HCwc := Lib.hid (HCwb.out.on hb)
                have HBwc := Lib.hid (bel_trans HBwb.out hb)
                have HDwc := Lib.hid (bel_trans HDwb.out hb)
                clear hb HRwb HCwb HBwb HDwb
                rw [E1.out]
                go_wp2_with fail
                refine (of_any n _).mono ?_
                rintro e wcc ⟨rfl, rfl⟩
                rw [HQ.out]
                go_wp2_with fail
                go_roundw
                case rel => exact ⟨c + 1, by omega, by go_num, by rw [E0.out], HDwc.out⟩
                case measure => simp [intOf]; omega
            · obtain rfl : c = 5 := by omega
              have dl : decide (((5 : Nat) : Int) ≤ 4) = false := rfl
              rw [show (if q < 5 then (1 : Int) else 0) = 1 from if_pos (by have := HQ4.out; omega)]
              go_wp2_with fail
              refine (asked_int _ _ _).mono ?_
              rintro e w20 ⟨rfl, rfl⟩
              go_wp2_with fail
              go_roundw
              case rel => exact ⟨k, by omega, rfl, by rw [HDr.out]; exact ⟨p, _, rfl, HRwr.out, HCwr.out⟩, HBwr.out⟩
              case measure => simp [intOf]
end Go.Proofs.YtabjpnggihginaaDoor
