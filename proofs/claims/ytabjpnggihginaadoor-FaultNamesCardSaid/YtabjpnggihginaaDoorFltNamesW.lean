/- souklaw04.FaultNames: its walk. (Printed by wip/gen_fnames.py.) -/
import Derived.Test.YtabjpnggihginaaDoorFltL
import Derived.Test.YtabjpnggihginaaDoorFltM
import Derived.Test.YtabjpnggihginaaDoorFltNil
import Derived.Test.YtabjpnggihginaaDoorFltS
namespace Go.Proofs.YtabjpnggihginaaDoor
open Go.RowKit Go.Extern.Stop Go.Stop Go.Extern Go.Shelf

def ownV : Value := .iface 44 (.agg #[])
theorem in_nil0 (w : World) : Calls Tryd.prog 17 #[.nilIface, .int .u8 0] w fun e w' => e = .returned (.bool true) ∧ Below w.heap.size w w' := in_nil 0 w
theorem in_nil4 (w : World) : Calls Tryd.prog 17 #[.nilIface, .int .u8 4] w fun e w' => e = .returned (.bool false) ∧ Below w.heap.size w w' := in_nil 4 w
theorem in_own0 (l : List Wr) (v : Value) (w : World) (hc : Chn w (.iface 44 (.agg #[])) l v) (he : ErrT w) : Calls Tryd.prog 17 #[v, .int .u8 0] w fun e w' => e = .returned (.bool true) ∧ Below w.heap.size w w' := in_own l v 0 w hc he
theorem text_own (w : World) : Calls Tryd.prog 11 #[.iface 44 (.agg #[])] w fun e w' => e = .returned (.string (ByteArray.mk #[111, 119, 110])) ∧ Below w.heap.size w w' :=
  text_any smF smO _ (.inr rfl) (fun n e => by cases e) [] _ w rfl (fmt_small w) (fun x hx => by cases hx) (by decide +kernel)
theorem tx_bare : txt smF (baT smF (.iface 44 (.agg #[]))) [⟨(ByteArray.mk #[97]), ⟨#[]⟩, 0⟩] = (ByteArray.mk #[97, 32, 97, 116, 32, 48, 58, 32, 111, 119, 110]) := by decide +kernel
theorem text_bare (v : Value) (w : World) (hc : Chn w (.iface 44 (.agg #[])) [⟨(ByteArray.mk #[97]), ⟨#[]⟩, 0⟩] v) : Calls Tryd.prog 11 #[v] w fun e w' => e = .returned (.string (ByteArray.mk #[97, 32, 97, 116, 32, 48, 58, 32, 111, 119, 110])) ∧ Below w.heap.size w w' := by
  have h := text_any smF smO _ (.inr rfl) (fun n e => by cases e) _ v w hc (fmt_small w) (fun x hx _ => by obtain rfl := List.mem_singleton.1 hx; exact .inr (.inr (.inl rfl))) (by rw [tx_bare]; decide +kernel)
  rw [tx_bare] at h
  exact h
theorem tx_twice : txt smF (baT smF (.iface 23 (.int .i64 45))) [⟨(ByteArray.mk #[97]), (ByteArray.mk #[111, 117, 116]), -1⟩, ⟨(ByteArray.mk #[97]), (ByteArray.mk #[105, 110]), 1⟩] = (ByteArray.mk #[97, 32, 111, 117, 116, 58, 32, 97, 32, 105, 110, 32, 97, 116, 32, 49, 58, 32, 115, 111, 117, 107, 58, 32, 101, 114, 114, 111, 114, 32, 52, 53]) := by decide +kernel
theorem text_twice (v : Value) (w : World) (hc : Chn w (.iface 23 (.int .i64 45)) [⟨(ByteArray.mk #[97]), (ByteArray.mk #[111, 117, 116]), -1⟩, ⟨(ByteArray.mk #[97]), (ByteArray.mk #[105, 110]), 1⟩] v) : Calls Tryd.prog 11 #[v] w fun e w' => e = .returned (.string (ByteArray.mk #[97, 32, 111, 117, 116, 58, 32, 97, 32, 105, 110, 32, 97, 116, 32, 49, 58, 32, 115, 111, 117, 107, 58, 32, 101, 114, 114, 111, 114, 32, 52, 53])) ∧ Below w.heap.size w w' := by
  have h := text_any smF smO _ (.inl ⟨45, rfl⟩) (fun n e => by cases e; exact .inr (.inr (.inr (.inr rfl)))) _ v w hc (fmt_small w) (fun x hx hp => by
    rcases List.mem_cons.1 hx with rfl | hx
    · exact absurd hp (by decide)
    · obtain rfl := List.mem_singleton.1 hx; exact .inr (.inr (.inr (.inl rfl)))) (by rw [tx_twice]; decide +kernel)
  rw [tx_twice] at h
  exact h
theorem find_twice (v : Value) (w : World) (hc : Chn w (.iface 23 (.int .i64 45)) [⟨(ByteArray.mk #[97]), (ByteArray.mk #[111, 117, 116]), -1⟩, ⟨(ByteArray.mk #[97]), (ByteArray.mk #[105, 110]), 1⟩] v) (hT : ErrT w) : Calls Tryd.prog 15 #[v, .string (ByteArray.mk #[97])] w fun e w' => e = .returned (.tuple #[.string (ByteArray.mk #[111, 117, 116]), .int .i64 (-1), .bool true]) ∧ Below w.heap.size w w' := by
  have h := find_any _ _ (.inl ⟨45, rfl⟩) v (ByteArray.mk #[97]) w hc hT
  rw [show fndV (ByteArray.mk #[97]) [⟨(ByteArray.mk #[97]), (ByteArray.mk #[111, 117, 116]), -1⟩, ⟨(ByteArray.mk #[97]), (ByteArray.mk #[105, 110]), 1⟩] = .tuple #[.string (ByteArray.mk #[111, 117, 116]), .int .i64 (-1), .bool true] by
    unfold fndV
    rw [show fstW (ByteArray.mk #[97]) [⟨(ByteArray.mk #[97]), (ByteArray.mk #[111, 117, 116]), -1⟩, ⟨(ByteArray.mk #[97]), (ByteArray.mk #[105, 110]), 1⟩] = some ⟨(ByteArray.mk #[97]), (ByteArray.mk #[111, 117, 116]), -1⟩ from by rw [fstW, if_pos rfl]]] at h
  exact h
theorem is_zero (l : List Wr) (v : Value) (w : World) (hc : Chn w (.iface 23 (.int .i64 0)) l v) : Calls Tryd.prog 20 #[v, .int .i64 0] w fun e w' => e = .returned (.bool true) ∧ w' = w := isF_int l 0 0 v w hc
theorem is_full (l : List Wr) (v : Value) (w : World) (hc : Chn w (.iface 23 (.int .i64 45)) l v) : Calls Tryd.prog 20 #[v, .int .i64 44] w fun e w' => e = .returned (.bool false) ∧ w' = w := isF_int l 45 44 v w hc
theorem ofC_lt (n : Int) : ofC n < 256 := by unfold ofC; split; omega; split; omega; split; omega; split <;> omega
theorem in_same (l : List Wr) (n : Int) (v : Value) (w : World) (hc : Chn w (.iface 23 (.int .i64 n)) l v) (he : ErrT w) :
    Calls Tryd.prog 17 #[v, .int .u8 (ofC n)] w fun e w' => e = .returned (.bool true) ∧ Below w.heap.size w w' := by
  have h := in_int l n v (ofC n) (ofC_lt n) w hc he
  rw [show decide (ofC n = ofC n) = true from decide_eq_true rfl] at h
  exact h
theorem ranges_bel {w w' : World} {P : Program} {k : TypeId} {R : Value → Option (DataW Unit × List MemPlace)} {b r n : Nat} {D : DataW Unit} {left : Lit → Bool} {cnt : Nat} (h : w.ranges P k R b r n D left cnt) (hb : Below w.heap.size w w') : w'.ranges P k R b r n D left cnt :=
  h.kept (row := none) ⟨hb.os, hb.tape, hb.output, hb.size, fun i hi _ => hb.block i hi⟩ (by simp) (by simp)

set_option maxRecDepth 100000 in
set_option maxHeartbeats 16000000 in
theorem names_any (w : World) (hT : ErrT w) (hN : NmsT w) :
    Calls Tryd.prog 5 #[] w fun e w' => e = .returned (.bool true) ∧ Below w.heap.size w w' := by
  have HW := Lib.hid (works_any smF smO w (fmtS_small w) hT)
  have HT := Lib.hid hT
  have HN := Lib.hid hN
  clear hT hN
  go_enter Tryd.func5, Tryd.ntmps5
  go_wp2_with fail
  refine HW.out.mono ?_
  rintro e w1 ⟨rfl, hb1⟩
  have hmp := MpAt.made hb1
  have hmk := @run_makeMap Tryd.prog
  have HB1 := Lib.hid hb1
  clear HW hb1
  go_wp2_with (first
    | (refine wpList_insert_mp _ rfl _ _ _ rfl w w1.heap.size _ _ rfl hmp (by decide) _ _ rfl rfl (by decide) (by decide) (by decide) ?_; clear hmp; intro wm Dm hmp)
    | (at_range; obtain ⟨hown, _, htell, hbel, hnew⟩ := hmp; refine wpList_range_own _ rfl _ 38 rfl 23 37 lawE Tryd.underlying38 _ _ _ _ rfl hown ?_; intro w0 hrg0 hg0 hs0)
    | go_in)
  simp only [Nat.zero_add, Nat.reduceAdd] at hrg0
  go_frame
  have hb0 : Below w.heap.size w w0 := hbel.grown hg0 hbel.size (fun j e => by cases e)
  clear hown hg0 hs0 hmk
  have HZ := Lib.hid hbel.size
  have HNW := Lib.hid hnew
  have HTE := Lib.hid htell
  clear hbel hnew htell
  go_loopw [2] (fun _ wr => ∃ (left : Lit → Bool) (cnt : Nat), wr.ranges Tryd.prog 23 (plainElem Tryd.prog 37) w1.heap.size wm.heap.size 25 Dm left cnt ∧ Below w.heap.size w wr)
    (fun _ wr => wr.rangeLeft w1.heap.size wm.heap.size)
  case atStart => exact ⟨_, _, hrg0, hb0⟩
  case round =>
    obtain ⟨left, cnt, hrg, hb⟩ := hrel
    clear hrg0 hb0
    have HB := Lib.hid hb
    clear hb
    go_wp2_with (first
      | (at_next; refine wpList_next_ranges_ii _ rfl _ rfl 23 37 .i64 .u8 lawE Tryd.underlying23 Tryd.underlying37 _ _ 25 _ _ _ rfl hrg ?_ ?_)
      | go_in)
    · intro hc0 hl0
      clear hrg hc0 hl0 HTE HZ HNW
      go_wp2_with fail
      obtain ⟨W1, eW1⟩ : ∃ W1, wr.alloc (.cells #[.string ⟨#[110, 111, 110, 101]⟩, .string ⟨#[99, 97, 108, 108, 101, 114]⟩, .string ⟨#[98, 121, 116, 101, 115]⟩, .string ⟨#[109, 97, 114, 107, 101, 116]⟩, .string ⟨#[100, 105, 115, 107]⟩] 9) = W1 := ⟨_, rfl⟩
      have hb1 : Below w.heap.size w W1 := by rw [← eW1]; exact HB.out.alloc HB.out.size _
      have hcl : ∀ k < 5, W1.cell? ⟨wr.heap.size, k, none⟩ = some (.string (nmOf k)) := by
        intro k hk
        rw [← eW1, World.cell?_alloc_new]
        match k, hk with
        | 0, _ => rfl
        | 1, _ => rfl
        | 2, _ => rfl
        | 3, _ => rfl
        | 4, _ => rfl
      rw [eW1]
      have hNN := HN.out.keep hb1
      have HBW := Lib.hid hb1
      have HCL := Lib.hid hcl
      have HNN := Lib.hid hNN
      generalize wr.heap.size = tb at *
      clear HB HN eW1 hb1 hcl hNN
      go_loopw [5] (fun iv wr => ∃ k : Nat, k ≤ 5 ∧ iv = .int .i64 k ∧ Below W1.heap.size W1 wr) (fun iv _ => 5 - (intOf iv).toNat)
      case atStart => exact ⟨0, by omega, rfl, Below.refl _ _⟩
      case round =>
        obtain ⟨k, hk, rfl, hb⟩ := hrel
        by_cases hin : k < 5
        · have x0 := (hb.cell (p := ⟨tb, k, none⟩) (World.block_lt_of_cell? _ _ (HCL.out k hin))).trans (HCL.out k hin)
          have d2 : decide ((k : Int) < 5) = true := decide_eq_true (by omega)
          have g0 : (0 : Int) ≤ (k : Int) := by omega
          have g1 : (k : Int) < 5 := by omega
          have hwr : IntKind.u8.wrap (k : Int) = (k : Int) := by simp [IntKind.wrap, IntKind.bits, IntKind.signed]; omega
          have HB := Lib.hid hb
          have HCE := Lib.hid (fun n => clsE_any k hin (wr.drewN n) (HNN.out.keep ⟨hb.os, hb.tape, hb.output, hb.size, hb.block⟩))
          clear hb
          go_wp2_with fail
          go_quiet ((go_at_call 18; exact Calls.quiet_of_same (HCE.out _)))
          go_wp2_with fail
          go_roundw
          case rel => exact ⟨k + 1, by omega, by go_num, ⟨HB.out.os, HB.out.tape, HB.out.output, HB.out.size, HB.out.block⟩⟩
          case measure => simp [intOf]; omega
        · obtain rfl : k = 5 := by omega
          have HB0 := Lib.hid (bel_trans HBW.out hb)
          clear hb HCL HNN HBW hin hk
          go_wp2_with fail
          refine (code_nil _).mono ?_
          rintro e y1 ⟨rfl, hb⟩
          have HB1 := Lib.hid (bel_trans HB0.out hb)
          clear hb HB0
          go_wp2_with fail
          refine (code_own [] _ _ rfl (HT.out.keep HB1.out)).mono ?_
          rintro e y2 ⟨rfl, hb⟩
          have HB2 := Lib.hid (bel_trans HB1.out hb)
          clear hb HB1
          go_wp2_with fail
          refine (find_nil _ _).mono ?_
          rintro e y3 ⟨rfl, hb⟩
          have HB3 := Lib.hid (bel_trans HB2.out hb)
          clear hb HB2
          go_wp2_with fail
          refine (wrap_chn [] _ (.inr rfl) _ _ _ _ _ rfl).mono ?_
          rintro e y4 ⟨vb, rfl, hc, hb⟩
          have HB4 := Lib.hid (bel_trans HB3.out hb)
          have HBare4 := Lib.hid hc
          clear hc
          clear hb HB3
          go_wp2_with fail
          refine (wrap_chn [] _ (.inl ⟨45, rfl⟩) _ _ _ _ _ rfl).mono ?_
          rintro e y5 ⟨vi, rfl, hc, hb⟩
          have HB5 := Lib.hid (bel_trans HB4.out hb)
          have HBare5 := Lib.hid (HBare4.out.on hb)
          clear HBare4
          have HIn5 := Lib.hid hc
          clear hc
          clear hb HB4
          go_wp2_with fail
          refine (wrap_chn _ _ (.inl ⟨45, rfl⟩) _ _ _ _ _ HIn5.out).mono ?_
          rintro e y6 ⟨vt, rfl, hc, hb⟩
          have HB6 := Lib.hid (bel_trans HB5.out hb)
          have HBare6 := Lib.hid (HBare5.out.on hb)
          have HTw6 := Lib.hid hc
          clear hc hb HB5 HBare5 HIn5
          go_wp2_with fail
          refine (find_twice _ _ HTw6.out (HT.out.keep HB6.out)).mono ?_
          rintro e y7 ⟨rfl, hb⟩
          have HB7 := Lib.hid (bel_trans HB6.out hb)
          have HBare7 := Lib.hid (HBare6.out.on hb)
          clear HBare6
          have HTw7 := Lib.hid (HTw6.out.on hb)
          clear HTw6
          clear hb HB6
          go_wp2_with fail
          refine (wrap_nil _ _ _ _).mono ?_
          rintro e y' ⟨rfl, rfl⟩
          go_wp2_with fail
          refine (ops_nil _).mono ?_
          rintro e y8 ⟨oa, cap, rfl, hb⟩
          have HB8 := Lib.hid (bel_trans HB7.out hb)
          have HBare8 := Lib.hid (HBare7.out.on hb)
          clear HBare7
          have HTw8 := Lib.hid (HTw7.out.on hb)
          clear HTw7
          clear hb HB7
          go_wp2_with fail
          refine (text_nil _).mono ?_
          rintro e y' ⟨rfl, rfl⟩
          go_wp2_with fail
          refine (text_own _).mono ?_
          rintro e y9 ⟨rfl, hb⟩
          have HB9 := Lib.hid (bel_trans HB8.out hb)
          have HBare9 := Lib.hid (HBare8.out.on hb)
          clear HBare8
          have HTw9 := Lib.hid (HTw8.out.on hb)
          clear HTw8
          clear hb HB8
          go_wp2_with fail
          refine (in_nil0 _).mono ?_
          rintro e y10 ⟨rfl, hb⟩
          have HB10 := Lib.hid (bel_trans HB9.out hb)
          have HBare10 := Lib.hid (HBare9.out.on hb)
          clear HBare9
          have HTw10 := Lib.hid (HTw9.out.on hb)
          clear HTw9
          clear hb HB9
          go_wp2_with fail
          refine (in_nil4 _).mono ?_
          rintro e y11 ⟨rfl, hb⟩
          have HB11 := Lib.hid (bel_trans HB10.out hb)
          have HBare11 := Lib.hid (HBare10.out.on hb)
          clear HBare10
          have HTw11 := Lib.hid (HTw10.out.on hb)
          clear HTw10
          clear hb HB10
          go_wp2_with fail
          refine (in_own0 [] _ _ rfl (HT.out.keep HB11.out)).mono ?_
          rintro e y12 ⟨rfl, hb⟩
          have HB12 := Lib.hid (bel_trans HB11.out hb)
          have HBare12 := Lib.hid (HBare11.out.on hb)
          clear HBare11
          have HTw12 := Lib.hid (HTw11.out.on hb)
          clear HTw11
          clear hb HB11
          go_wp2_with fail
          refine (text_bare _ _ HBare12.out).mono ?_
          rintro e y13 ⟨rfl, hb⟩
          have HB13 := Lib.hid (bel_trans HB12.out hb)
          have HBare13 := Lib.hid (HBare12.out.on hb)
          clear HBare12
          have HTw13 := Lib.hid (HTw12.out.on hb)
          clear HTw12
          clear hb HB12
          go_wp2_with fail
          refine (in_own0 _ _ _ HBare13.out (HT.out.keep HB13.out)).mono ?_
          rintro e y14 ⟨rfl, hb⟩
          have HB14 := Lib.hid (bel_trans HB13.out hb)
          have HBare14 := Lib.hid (HBare13.out.on hb)
          clear HBare13
          have HTw14 := Lib.hid (HTw13.out.on hb)
          clear HTw13
          clear hb HB13
          go_wp2_with fail
          refine (isF_nil _ _).mono ?_
          rintro e y' ⟨rfl, rfl⟩
          go_wp2_with fail
          refine (wrap_chn [] _ (.inl ⟨0, rfl⟩) _ _ _ _ _ rfl).mono ?_
          rintro e y15 ⟨vz, rfl, hc, hb⟩
          have HB15 := Lib.hid (bel_trans HB14.out hb)
          have HBare15 := Lib.hid (HBare14.out.on hb)
          clear HBare14
          have HTw15 := Lib.hid (HTw14.out.on hb)
          clear HTw14
          have HZe15 := Lib.hid hc
          clear hc
          clear hb HB14
          go_wp2_with fail
          refine (is_zero _ _ _ HZe15.out).mono ?_
          rintro e y' ⟨rfl, rfl⟩
          go_wp2_with fail
          refine (text_twice _ _ HTw15.out).mono ?_
          rintro e y16 ⟨rfl, hb⟩
          have HB16 := Lib.hid (bel_trans HB15.out hb)
          have HBare16 := Lib.hid (HBare15.out.on hb)
          clear HBare15
          have HTw16 := Lib.hid (HTw15.out.on hb)
          clear HTw15
          have HZe16 := Lib.hid (HZe15.out.on hb)
          clear HZe15
          clear hb HB15
          go_wp2_with fail
          refine (is_full _ _ _ HTw16.out).mono ?_
          rintro e y' ⟨rfl, rfl⟩
          go_wp2_with fail
          go_ret
          exact ⟨rfl, HB16.out⟩
    · intro x c w2 cnt2 hwx hwc hlx hat hrg2 hlt hg2 hs2 hen
      obtain rfl := HTE.out x c hat
      have HB2 := Lib.hid (HB.out.grown hg2 HB.out.size (fun j e => by cases e; exact HZ.out))
      have HR2 := Lib.hid hrg2
      clear hat hwx hwc hlx hrg2 hg2 hs2
      have hofc := ofC_lt x
      go_wp2_with fail
      refine (of_any x _).mono ?_
      rintro e w3 ⟨rfl, rfl⟩
      go_wp2_with fail
      refine (in_same [] x _ _ rfl (HT.out.keep HB2.out)).mono ?_
      rintro e w3 ⟨rfl, hb3⟩
      have HR3 := Lib.hid (ranges_bel HR2.out hb3)
      have HB3 := Lib.hid (bel_trans HB2.out hb3)
      clear hb3 HR2
      go_wp2_with fail
      refine (wrap_chn [] _ (.inl ⟨x, rfl⟩) _ _ _ _ _ rfl).mono ?_
      rintro e w4 ⟨v4, rfl, hc4, hb4⟩
      have HR4 := Lib.hid (ranges_bel HR3.out hb4)
      have HB4 := Lib.hid (bel_trans HB3.out hb4)
      have HC4 := Lib.hid hc4
      clear hb4 hc4 HR3
      go_wp2_with fail
      refine (in_same _ x _ _ HC4.out (HT.out.keep HB4.out)).mono ?_
      rintro e w5 ⟨rfl, hb5⟩
      have HR5 := Lib.hid (ranges_bel HR4.out hb5)
      have HB5 := Lib.hid (bel_trans HB4.out hb5)
      clear hb5 HR4
      go_wp2_with fail
      go_roundw
      case rel => exact ⟨_, cnt2, HR5.out, HB5.out⟩
      case measure => rw [HR5.out.left_eq, hrg.left_eq]; exact hlt
end Go.Proofs.YtabjpnggihginaaDoor
