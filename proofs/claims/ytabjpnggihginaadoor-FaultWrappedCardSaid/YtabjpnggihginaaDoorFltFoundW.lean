/- The walk of FaultFound. -/
import Derived.Test.YtabjpnggihginaaDoorFltK
namespace Go.Proofs.YtabjpnggihginaaDoor
open Go.RowKit Go.Extern.Stop Go.Stop Go.Extern Go.Shelf

theorem hvy_len (z : List Wr) (n : Nat) (h : hvy n z < 5000) : n + 20 * z.length ≤ hvy n z := by
  induction z generalizing n with
  | nil => simp [hvy]
  | cons x z ih =>
    rw [hvy] at h ⊢
    split at h
    · rename_i hc
      rw [if_pos hc]
      have := ih _ h
      have h1 : 20 ≤ one x := by unfold one; omega
      simp only [List.length_cons]
      omega
    · omega

theorem fst_some (o : ByteArray) (z : List Wr) : (fstW o z).isSome = z.any (fun x => x.op.toList == o.toList) := by
  induction z with
  | nil => rfl
  | cons x z ih =>
    rw [fstW, List.any_cons]
    by_cases h : x.op = o
    · rw [if_pos h, h, str_same]; rfl
    · rw [if_neg h, str_other h, ih]; rfl
/-- what Find tells, part by part -/
def fNm (o : ByteArray) (z : List Wr) : ByteArray := match fstW o z with | some x => x.nm | none => ⟨#[]⟩
def fPl (o : ByteArray) (z : List Wr) : Int := match fstW o z with | some x => x.pl | none => 0
theorem fnd_eq (o : ByteArray) (z : List Wr) : fndV o z = .tuple #[.string (fNm o z), .int .i64 (fPl o z), .bool (fstW o z).isSome] := by
  unfold fndV fNm fPl
  cases fstW o z <;> rfl
theorem any_take (o : ByteArray) (z : List Wr) (k : Nat) (x : Wr) (h : z[k]? = some x) : (z.take (k + 1)).any (fun x => x.op.toList == o.toList) = ((z.take k).any (fun x => x.op.toList == o.toList) || (x.op.toList == o.toList)) := by
  rw [List.take_add_one, h]
  simp

set_option maxRecDepth 20000 in
set_option maxHeartbeats 4000000 in
theorem found_any (F : Int → ByteArray) (ok : Int → Prop) (a : Option Addr) (len cap : Nat) (z : List Wr) (n : Int) (o : ByteArray) (w : World) (hF : FmtS w F ok) (hT : ErrT w) (h : WrsIn w a len cap z) :
    Calls Tryd.prog 4 #[.slice a len cap, .int .i64 n, .string o] w fun e w' => e = .returned (.bool true) ∧ Below w.heap.size w w' := by
  have hB : Base (.iface 23 (.int .i64 n)) := .inl ⟨n, rfl⟩
  have HF := Lib.hid hF
  have HT := Lib.hid hT
  have HZ := Lib.hid h
  clear hF hT h
  go_enter Tryd.func4, Tryd.ntmps4
  go_wp2_with fail
  refine (works_any F ok _ HF.out HT.out).mono ?_
  rintro e w1 ⟨rfl, hb1⟩
  have HB1 := Lib.hid hb1
  clear hb1
  go_wp2_with fail
  refine (heavy_any a len cap z _ (HZ.out.keep HB1.out)).mono ?_
  rintro e w2 ⟨rfl, hb2⟩
  have HB2 := Lib.hid (bel_trans HB1.out hb2)
  clear hb2 HB1
  by_cases hv : 5000 ≤ hvy 0 z
  · rw [decide_eq_true hv]
    clear hv
    go_wp2_with fail
    refine (works_any F ok _ (HF.out.keep HB2.out) (HT.out.keep HB2.out)).mono ?_
    rintro e w3 ⟨rfl, hb3⟩
    have HB3 := Lib.hid (bel_trans HB2.out hb3)
    clear hb3 HB2
    go_wp2_with fail
    go_ret
    exact ⟨rfl, HB3.out⟩
  · rw [decide_eq_false hv]
    have hzl := hvy_len z 0 (by omega)
    have HL := Lib.hid (show z.length ≤ 250 by omega)
    clear hv hzl
    go_wp2_with fail
    refine (made_any a len cap z n _ (HZ.out.keep HB2.out)).mono ?_
    rintro e w3 ⟨v, rfl, hc3, hb3⟩
    have HC3 := Lib.hid hc3
    have HB3 := Lib.hid (bel_trans HB2.out hb3)
    clear hb3 hc3 HB2
    go_wp2_with fail
    refine (ops_any z _ hB v w3 HC3.out (HT.out.keep HB3.out) (by have := HL.out; omega)).mono ?_
    rintro e w4 ⟨oa, cap4, rfl, ho, hb4⟩
    have HC4 := Lib.hid (HC3.out.on hb4)
    have HB4 := Lib.hid (bel_trans HB3.out hb4)
    have HO := Lib.hid ho
    clear hb4 ho HC3 HB3
    go_wp2_with fail
    go_loop [9, 10] (fun tv iv => ∃ k : Nat, k ≤ z.length ∧ iv = .int .i64 k ∧ tv = .bool ((z.take k).any (fun x => x.op.toList == o.toList))) (fun _ iv => z.length - (intOf iv).toNat)
    case atStart => exact ⟨0, Nat.zero_le _, rfl, rfl⟩
    case round =>
      obtain ⟨k, hk, rfl, rfl⟩ := hrel
      by_cases hin : k < z.length
      · obtain ⟨x, hx⟩ : ∃ x, z[k]? = some x := ⟨_, List.getElem?_eq_getElem hin⟩
        obtain ⟨g, rfl, hcap, hcells⟩ := own_cells HO.out (by omega)
        have q0 : w4.cell? ⟨g, k, none⟩ = some (.string x.op) := hcells k _ (by rw [List.getElem?_map, hx]; rfl)
        have HT2 := Lib.hid (any_take o z k x hx)
        obtain ⟨tb, etb⟩ : ∃ tb, (z.take k).any (fun x => x.op.toList == o.toList) = tb := ⟨_, rfl⟩
        rw [etb] at HT2 ⊢
        have g0 : (0 : Int) ≤ (k : Int) := by omega
        have g1 : (k : Int) < (z.length : Int) := by omega
        have d1 : decide ((k : Int) < (z.length : Int)) = true := decide_eq_true g1
        clear hcells hx HO etb
        cases tb
        all_goals
          have hzl := HL.out
          go_wp2_with fail
          go_round
          case rel => exact ⟨k + 1, by omega, by go_num, by rw [HT2.out]; simp⟩
          case measure => simp [intOf]; omega
      · obtain rfl : k = z.length := by omega
        have d1 : decide ((z.length : Int) < (z.length : Int)) = false := decide_eq_false (by omega)
        have hall : (z.take z.length).any (fun x => x.op.toList == o.toList) = (fstW o z).isSome := by rw [List.take_of_length_le (Nat.le_refl _), fst_some]
        rw [hall]
        obtain ⟨q, hq⟩ : ∃ q, (fstW o z).isSome = q := ⟨_, rfl⟩
        have HFn := Lib.hid (find_any z _ hB v o w4 HC4.out (HT.out.keep HB4.out))
        rw [fnd_eq, hq] at HFn
        rw [hq]
        clear hall hq HO hin hk
        go_wp2_with fail
        refine HFn.out.mono ?_
        rintro e w5 ⟨rfl, hb5⟩
        have HC5 := Lib.hid (HC4.out.on hb5)
        have HB5 := Lib.hid (bel_trans HB4.out hb5)
        clear hb5 HC4 HB4 HFn
        have hqq : (q != q) = false := by simp
        go_wp2_with fail
        refine (wrap_chn _ _ hB v _ _ _ w5 HC5.out).mono ?_
        rintro e w6 ⟨v6, rfl, hc6, hb6⟩
        have HC6 := Lib.hid hc6
        have HB6 := Lib.hid (bel_trans HB5.out hb6)
        clear hb6 hc6 HC5 HB5
        have HFn := Lib.hid (find_any _ _ hB v6 o w6 HC6.out (HT.out.keep HB6.out))
        rw [show fndV o (⟨o, ⟨#[111, 117, 116, 101, 114, 109, 111, 115, 116]⟩, 3⟩ :: z) = .tuple #[.string ⟨#[111, 117, 116, 101, 114, 109, 111, 115, 116]⟩, .int .i64 3, .bool true] by unfold fndV; rw [fstW, if_pos rfl]] at HFn
        go_wp2_with fail
        refine HFn.out.mono ?_
        rintro e w7 ⟨rfl, hb7⟩
        have HB7 := Lib.hid (bel_trans HB6.out hb7)
        clear hb7 HFn
        go_wp2_with fail
        go_ret
        exact ⟨rfl, HB7.out⟩
end Go.Proofs.YtabjpnggihginaaDoor
