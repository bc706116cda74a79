/- souklaw11.SegCalled: its walk. (Printed by wip/gen_called.py.) -/
import Derived.Test.YtaonjbkkgeiniaaGreatDoorSgQ
namespace Go.Proofs.YtaonjbkkgeiniaaGreatDoor
open Go.RowKit

set_option maxRecDepth 20000 in
set_option maxHeartbeats 16000000 in
theorem called_any (g a b : Int) (s : ByteArray) (w : World) (h : Laid w) :
    Calls Tryz.prog 10 #[.int .i64 g, .int .i64 a, .int .i64 b, .string s] w fun r w' => r = .returned (.bool true) ∧ Below w.heap.size w w' := by
  have HL := Lib.hid h
  clear h
  by_cases hs : 200 < s.size
  · have d1 : decide ((200 : Int) < (s.size : Int)) = true := decide_eq_true (by omega)
    clear hs
    go_enter Tryz.func10, Tryz.ntmps10
    go_wp2_with fail
    refine (awake_any _ HL.out).mono ?_
    rintro r w1 ⟨rfl, hb1⟩
    have HB1 := Lib.hid hb1
    clear hb1
    go_wp2_with fail
    go_ret
    exact ⟨rfl, HB1.out⟩
  have d1 : decide ((200 : Int) < (s.size : Int)) = false := decide_eq_false (by omega)
  have hmw : (∀ w, Laid w → Calls Tryz.prog 13 #[.string s] w fun e w' => e = .returned (.tuple #[.int .i64 (ndG s.data.toList : Nat), .int .i64 (ndF s.data.toList : Nat), .bool true]) ∧ Below w.heap.size w w') ∧ (∀ w, Laid w → Calls Tryz.prog 19 #[.int .i64 (ndG s.data.toList : Nat), .int .i64 (ndF s.data.toList : Nat)] w fun e w' => e = .returned (.string s) ∧ Below w.heap.size w w') ∨
      (∀ w, Laid w → Calls Tryz.prog 13 #[.string s] w fun e w' => e = .returned (.tuple #[.int .i64 0, .int .i64 0, .bool false]) ∧ Below w.heap.size w w') ∧ True := by
    rcases named_law s with ⟨h1, h2, h3, h4⟩ | ⟨h1, _⟩
    · left
      refine ⟨fun w h => ?_, fun w h => ?_⟩
      · have := named_any s (by omega) w h
        unfold ndV at this
        rw [if_pos h1] at this
        exact this
      · have := name_any (ndG s.data.toList : Nat) (ndF s.data.toList : Nat) w h.pow
        rw [← h2, ← h3, h4] at this
        rw [← h2, ← h3]
        exact this
    · right
      refine ⟨fun w h => ?_, trivial⟩
      have := named_any s (by omega) w h
      unfold ndV at this
      rw [if_neg (by rw [h1]; exact Bool.false_ne_true)] at this
      exact this
  have HMW := Lib.hid hmw
  generalize ndG s.data.toList = G at *
  generalize ndF s.data.toList = F at *
  clear hmw hs
  have ka := fun w (h : Laid w) => name_any g a w h.pow
  have kb := fun w (h : Laid w) => name_any g b w h.pow
  have kn := fun w (h : Laid w) => named_any (nmS g a) (by have := nmS_size g a; omega) w h
  have hc := called_law g a b
  have hE : ∀ t : ByteArray, t ≠ ⟨#[]⟩ → t.toList.isEmpty = false ∧ (t.toList == ([] : List UInt8)) = false := by
    intro t ht
    have : t.toList ≠ [] := fun e => ht (by
      apply ba_ext
      rw [← ByteArray.toList_eq, e])
    cases hl : t.toList with
    | nil => exact absurd hl this
    | cons a b => exact ⟨rfl, rfl⟩
  have hz : ndV (nmS g a) = .tuple #[.int .i64 0, .int .i64 0, .bool false] ∨ okN (nmS g a).data.toList = true := by
    cases hq : okN (nmS g a).data.toList with
    | true => exact .inr rfl
    | false => left; unfold ndV; rw [if_neg (by rw [hq]; exact Bool.false_ne_true)]
  obtain ⟨X, hX⟩ : ∃ X, nmS g a = X := ⟨_, rfl⟩
  obtain ⟨Y, hY⟩ : ∃ Y, nmS g b = Y := ⟨_, rfl⟩
  rw [hX] at ka kn hc hz
  rw [hY] at kb hc
  clear hX hY
  rcases hc with ⟨rfl, h2⟩ | ⟨h1, h2, h3⟩
  · have hk : ndV (⟨#[]⟩ : ByteArray) = .tuple #[.int .i64 0, .int .i64 0, .bool false] := by rcases hz with h | h; exact h; rw [h2] at h; cases h
    rw [hk] at kn
    have KA := Lib.hid ka
    have KB := Lib.hid kb
    have KN := Lib.hid kn
    clear ka kb kn hk h2 hz hE
    rcases HMW.out with ⟨m1, m2⟩ | ⟨m1, m2⟩
    · have KM := Lib.hid m1
      have KO := Lib.hid m2
      clear m1 m2
      go_enter Tryz.func10, Tryz.ntmps10
      go_wp2_with fail
      refine (awake_any _ HL.out).mono ?_
      rintro r w1 ⟨rfl, hb⟩
      have HB1 := Lib.hid hb
      clear hb
      go_wp2_with fail
      refine (KA.out _ (HL.out.keep HB1.out)).mono ?_
      rintro r w2 ⟨rfl, hb⟩
      have HB2 := Lib.hid (bel_trans HB1.out hb)
      clear hb
      go_wp2_with fail
      refine (KB.out _ (HL.out.keep HB2.out)).mono ?_
      rintro r w3 ⟨rfl, hb⟩
      have HB3 := Lib.hid (bel_trans HB2.out hb)
      clear hb
      go_wp2_with fail
      refine (KN.out _ (HL.out.keep HB3.out)).mono ?_
      rintro r w4 ⟨rfl, hb⟩
      have HB4 := Lib.hid (bel_trans HB3.out hb)
      clear hb
      go_wp2_with fail
      refine (KM.out _ (HL.out.keep HB4.out)).mono ?_
      rintro r w5 ⟨rfl, hb⟩
      have HB5 := Lib.hid (bel_trans HB4.out hb)
      clear hb
      go_wp2_with fail
      refine (KO.out _ (HL.out.keep HB5.out)).mono ?_
      rintro r w6 ⟨rfl, hb⟩
      have HB6 := Lib.hid (bel_trans HB5.out hb)
      clear hb
      go_wp2_with fail
      go_ret
      exact ⟨rfl, HB6.out⟩
    · have KM := Lib.hid m1
      clear m1 m2
      go_enter Tryz.func10, Tryz.ntmps10
      go_wp2_with fail
      refine (awake_any _ HL.out).mono ?_
      rintro r w1 ⟨rfl, hb⟩
      have HB1 := Lib.hid hb
      clear hb
      go_wp2_with fail
      refine (KA.out _ (HL.out.keep HB1.out)).mono ?_
      rintro r w2 ⟨rfl, hb⟩
      have HB2 := Lib.hid (bel_trans HB1.out hb)
      clear hb
      go_wp2_with fail
      refine (KB.out _ (HL.out.keep HB2.out)).mono ?_
      rintro r w3 ⟨rfl, hb⟩
      have HB3 := Lib.hid (bel_trans HB2.out hb)
      clear hb
      go_wp2_with fail
      refine (KN.out _ (HL.out.keep HB3.out)).mono ?_
      rintro r w4 ⟨rfl, hb⟩
      have HB4 := Lib.hid (bel_trans HB3.out hb)
      clear hb
      go_wp2_with fail
      refine (KM.out _ (HL.out.keep HB4.out)).mono ?_
      rintro r w5 ⟨rfl, hb⟩
      have HB5 := Lib.hid (bel_trans HB4.out hb)
      clear hb
      go_wp2_with fail
      go_ret
      exact ⟨rfl, HB5.out⟩
  · rw [h2] at kn
    have KA := Lib.hid ka
    have KB := Lib.hid kb
    have KN := Lib.hid kn
    obtain ⟨e1, e2⟩ := hE X h1
    rcases h3 with rfl | ⟨h3, h4, h5⟩
    · clear ka kb kn h2 hz hE h1
      rcases HMW.out with ⟨m1, m2⟩ | ⟨m1, m2⟩
      · have KM := Lib.hid m1
        have KO := Lib.hid m2
        clear m1 m2
        go_enter Tryz.func10, Tryz.ntmps10
        go_wp2_with fail
        refine (awake_any _ HL.out).mono ?_
        rintro r w1 ⟨rfl, hb⟩
        have HB1 := Lib.hid hb
        clear hb
        go_wp2_with fail
        refine (KA.out _ (HL.out.keep HB1.out)).mono ?_
        rintro r w2 ⟨rfl, hb⟩
        have HB2 := Lib.hid (bel_trans HB1.out hb)
        clear hb
        go_wp2_with fail
        refine (KB.out _ (HL.out.keep HB2.out)).mono ?_
        rintro r w3 ⟨rfl, hb⟩
        have HB3 := Lib.hid (bel_trans HB2.out hb)
        clear hb
        go_wp2_with fail
        refine (KN.out _ (HL.out.keep HB3.out)).mono ?_
        rintro r w4 ⟨rfl, hb⟩
        have HB4 := Lib.hid (bel_trans HB3.out hb)
        clear hb
        go_wp2_with fail
        refine (KM.out _ (HL.out.keep HB4.out)).mono ?_
        rintro r w5 ⟨rfl, hb⟩
        have HB5 := Lib.hid (bel_trans HB4.out hb)
        clear hb
        go_wp2_with fail
        refine (KO.out _ (HL.out.keep HB5.out)).mono ?_
        rintro r w6 ⟨rfl, hb⟩
        have HB6 := Lib.hid (bel_trans HB5.out hb)
        clear hb
        go_wp2_with fail
        go_ret
        exact ⟨rfl, HB6.out⟩
      · have KM := Lib.hid m1
        clear m1 m2
        go_enter Tryz.func10, Tryz.ntmps10
        go_wp2_with fail
        refine (awake_any _ HL.out).mono ?_
        rintro r w1 ⟨rfl, hb⟩
        have HB1 := Lib.hid hb
        clear hb
        go_wp2_with fail
        refine (KA.out _ (HL.out.keep HB1.out)).mono ?_
        rintro r w2 ⟨rfl, hb⟩
        have HB2 := Lib.hid (bel_trans HB1.out hb)
        clear hb
        go_wp2_with fail
        refine (KB.out _ (HL.out.keep HB2.out)).mono ?_
        rintro r w3 ⟨rfl, hb⟩
        have HB3 := Lib.hid (bel_trans HB2.out hb)
        clear hb
        go_wp2_with fail
        refine (KN.out _ (HL.out.keep HB3.out)).mono ?_
        rintro r w4 ⟨rfl, hb⟩
        have HB4 := Lib.hid (bel_trans HB3.out hb)
        clear hb
        go_wp2_with fail
        refine (KM.out _ (HL.out.keep HB4.out)).mono ?_
        rintro r w5 ⟨rfl, hb⟩
        have HB5 := Lib.hid (bel_trans HB4.out hb)
        clear hb
        go_wp2_with fail
        go_ret
        exact ⟨rfl, HB5.out⟩
    · obtain ⟨e3, e4⟩ := hE Y h3
      clear ka kb kn h2 hz hE h1 h3
      rcases HMW.out with ⟨m1, m2⟩ | ⟨m1, m2⟩
      · have KM := Lib.hid m1
        have KO := Lib.hid m2
        clear m1 m2
        go_enter Tryz.func10, Tryz.ntmps10
        go_wp2_with fail
        refine (awake_any _ HL.out).mono ?_
        rintro r w1 ⟨rfl, hb⟩
        have HB1 := Lib.hid hb
        clear hb
        go_wp2_with fail
        refine (KA.out _ (HL.out.keep HB1.out)).mono ?_
        rintro r w2 ⟨rfl, hb⟩
        have HB2 := Lib.hid (bel_trans HB1.out hb)
        clear hb
        go_wp2_with fail
        refine (KB.out _ (HL.out.keep HB2.out)).mono ?_
        rintro r w3 ⟨rfl, hb⟩
        have HB3 := Lib.hid (bel_trans HB2.out hb)
        clear hb
        go_wp2_with fail
        refine (KN.out _ (HL.out.keep HB3.out)).mono ?_
        rintro r w4 ⟨rfl, hb⟩
        have HB4 := Lib.hid (bel_trans HB3.out hb)
        clear hb
        go_wp2_with fail
        refine (KM.out _ (HL.out.keep HB4.out)).mono ?_
        rintro r w5 ⟨rfl, hb⟩
        have HB5 := Lib.hid (bel_trans HB4.out hb)
        clear hb
        go_wp2_with fail
        refine (KO.out _ (HL.out.keep HB5.out)).mono ?_
        rintro r w6 ⟨rfl, hb⟩
        have HB6 := Lib.hid (bel_trans HB5.out hb)
        clear hb
        go_wp2_with fail
        go_ret
        exact ⟨rfl, HB6.out⟩
      · have KM := Lib.hid m1
        clear m1 m2
        go_enter Tryz.func10, Tryz.ntmps10
        go_wp2_with fail
        refine (awake_any _ HL.out).mono ?_
        rintro r w1 ⟨rfl, hb⟩
        have HB1 := Lib.hid hb
        clear hb
        go_wp2_with fail
        refine (KA.out _ (HL.out.keep HB1.out)).mono ?_
        rintro r w2 ⟨rfl, hb⟩
        have HB2 := Lib.hid (bel_trans HB1.out hb)
        clear hb
        go_wp2_with fail
        refine (KB.out _ (HL.out.keep HB2.out)).mono ?_
        rintro r w3 ⟨rfl, hb⟩
        have HB3 := Lib.hid (bel_trans HB2.out hb)
        clear hb
        go_wp2_with fail
        refine (KN.out _ (HL.out.keep HB3.out)).mono ?_
        rintro r w4 ⟨rfl, hb⟩
        have HB4 := Lib.hid (bel_trans HB3.out hb)
        clear hb
        go_wp2_with fail
        refine (KM.out _ (HL.out.keep HB4.out)).mono ?_
        rintro r w5 ⟨rfl, hb⟩
        have HB5 := Lib.hid (bel_trans HB4.out hb)
        clear hb
        go_wp2_with fail
        go_ret
        exact ⟨rfl, HB5.out⟩
end Go.Proofs.YtaonjbkkgeiniaaGreatDoor
