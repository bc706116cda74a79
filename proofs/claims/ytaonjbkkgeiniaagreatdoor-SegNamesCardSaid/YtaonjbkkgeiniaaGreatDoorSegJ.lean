/- Walks over package seg: wrong, the iterator of segments (where each payload goes into the last one). -/
import Derived.Test.YtaonjbkkgeiniaaGreatDoorSegW
import Derived.Test.YtaonjbkkgeiniaaGreatDoorBld
import Derived.Test.YtaonjbkkgeiniaaGreatDoorB3
namespace Go.Proofs.YtaonjbkkgeiniaaGreatDoor
open Go.RowKit Go.Shelf
attribute [local go_sem] Oper.semAt_some

set_option maxHeartbeats 400000 in
theorem wrong1_any (p : ByteArray) (w : World) :
    Calls Tryz.prog 76 #[.string p] w fun e w' => e = .returned (.bool (decide (¬ payOk p.data.toList))) ∧ w = w' := by
  have hl : p.data.toList.length = p.size := rfl
  by_cases h : payOk p.data.toList
  · have hs : szOf (p.size : Int) = 16 + p.size := by unfold szOf; rw [if_pos]; unfold payOk at h; rw [hl] at h; unfold lenOk; omega
    have H := Lib.hid (size_any (p.size : Int) w)
    rw [hs] at H
    have d1 : ((16 + (p.size : Int)) == 0) = false := by rw [beq_eq_false_iff_ne]; omega
    rw [decide_eq_false (not_not_intro h)]
    clear h hs hl
    go_enter Tryz.func76, Tryz.ntmps76
    go_wp2_with fail
    refine H.out.mono ?_
    rintro e w1 ⟨rfl, rfl⟩
    go_wp2_with fail
    go_ret
    exact ⟨rfl, rfl⟩
  · have hs : szOf (p.size : Int) = 0 := by unfold szOf; rw [if_neg]; unfold payOk at h; rw [hl] at h; unfold lenOk; omega
    have H := Lib.hid (size_any (p.size : Int) w)
    rw [hs] at H
    rw [decide_eq_true h]
    clear h hs hl
    go_enter Tryz.func76, Tryz.ntmps76
    go_wp2_with fail
    refine H.out.mono ?_
    rintro e w1 ⟨rfl, rfl⟩
    go_wp2_with fail
    go_ret
    exact ⟨rfl, rfl⟩

set_option maxRecDepth 100000 in
set_option maxHeartbeats 1000000 in
theorem indexf_any {len cap : Nat} {oa : Option Addr} (z : List ByteArray) (w : World) (h : StrsIn w oa len cap z) :
    Calls Tryz.prog 100 #[.slice oa len cap, .func (.func 76) #[] #[]] w fun e w' => ∃ c : Int, e = .returned (.int .i64 c) ∧ (0 ≤ c ↔ ∃ p ∈ z, ¬ payOk p.data.toList) ∧ w = w' := by
  obtain ⟨hl, hlc, hcap, hsz, hcell⟩ := h
  have HC := Lib.hid hcell
  have HL := Lib.hid hl
  clear hl hcell
  go_enter Tryz.func100, Tryz.ntmps100
  go_wp2_with fail
  go_loop [8, 5] (fun iv _ => ∃ i : Nat, i ≤ len ∧ iv = .int .i64 i ∧ ∀ j, j < i → payOk (z.getD j ByteArray.empty).data.toList) (fun iv _ => len - (intOf iv).toNat)
  case atStart => exact ⟨0, Nat.zero_le _, rfl, fun j hj => by omega⟩
  case round =>
    obtain ⟨i, hi, rfl, hall⟩ := hrel
    have HA := Lib.hid hall
    clear hall
    by_cases hin : i < len
    · rcases HC.out with h0 | ⟨b, off, rfl, hb, hc⟩
      · omega
      · have k0 := hc i hin
        obtain ⟨p, hp⟩ : ∃ p, z.getD i ByteArray.empty = p := ⟨_, rfl⟩
        rw [hp] at k0
        have H1 := wrong1_any p w
        have EP := Lib.hid hp
        clear hc hp
        by_cases hk : payOk p.data.toList
        · rw [decide_eq_false (not_not_intro hk)] at H1
          have H1 := Lib.hid H1
          have HK := Lib.hid hk
          clear hk
          go_wp2_with fail
          refine H1.out.mono ?_
          rintro e w1 ⟨rfl, rfl⟩
          go_wp2_with fail
          go_round
          case rel => exact ⟨i + 1, hin, by go_num, fun j hj => by
            rcases Nat.lt_or_ge j i with h | h
            · exact HA.out j h
            · obtain rfl : j = i := by omega
              rw [EP.out]; exact HK.out⟩
          case measure => simp [intOf]; omega
        · rw [decide_eq_true hk] at H1
          have H1 := Lib.hid H1
          have HK := Lib.hid hk
          clear hk
          go_wp2_with fail
          refine H1.out.mono ?_
          rintro e w1 ⟨rfl, rfl⟩
          go_wp2_with fail
          go_ret
          refine ⟨_, rfl, ⟨fun _ => ⟨p, ?_, HK.out⟩, fun _ => by omega⟩, rfl⟩
          rw [← EP.out, List.getD_eq_getElem?_getD, List.getElem?_eq_getElem (by rw [HL.out]; exact hin)]
          exact List.getElem_mem _
    · obtain rfl : i = len := by omega
      go_wp2_with fail
      go_ret
      refine ⟨-1, rfl, ⟨fun h => by omega, ?_⟩, rfl⟩
      rintro ⟨p, hp, hbad⟩
      obtain ⟨j, hj, rfl⟩ := List.getElem_of_mem hp
      have := HA.out j (by rw [← HL.out]; exact hj)
      rw [List.getD_eq_getElem?_getD, List.getElem?_eq_getElem hj] at this
      exact absurd this hbad

theorem ret_bool {a b : Bool} (h : a = b) : Ending.returned (.bool a) = .returned (.bool b) := by rw [h]
/-- wrong's error -/
def wrE (f : Int) (z : List ByteArray) : Nat := if ∃ p ∈ z, ¬ payOk p.data.toList then 4 else if 1048576 < f + z.length then 40 else 0
set_option maxHeartbeats 1000000 in
theorem wrong_any {len cap : Nat} {oa : Option Addr} (f : Int) (z : List ByteArray) (w : World) (h : StrsIn w oa len cap z) (hf : 0 ≤ f) (hf2 : f ≤ 1048576) :
    Calls Tryz.prog 46 #[.int .i64 f, .slice oa len cap] w fun e w' => e = .returned (.int .i64 (wrE f z)) ∧ w = w' := by
  have hlen : z.length = len := h.1
  have hcon : Calls Tryz.prog 75 #[.slice oa len cap, .func (.func 76) #[] #[]] w fun e w' => e = .returned (.bool (decide (∃ p ∈ z, ¬ payOk p.data.toList))) ∧ w = w' := by
    have H := Lib.hid (indexf_any z w h)
    go_enter Tryz.func75, Tryz.ntmps75
    go_wp2_with fail
    refine H.out.mono ?_
    rintro e w1 ⟨c, rfl, hc, rfl⟩
    have HC := Lib.hid hc
    clear hc
    go_wp2_with fail
    go_ret
    exact ⟨ret_bool (decide_eq_decide.2 HC.out), rfl⟩
  unfold wrE
  rw [hlen]
  have hcap := h.2.2.1
  have hlc := h.2.1
  clear h
  by_cases h1 : ∃ p ∈ z, ¬ payOk p.data.toList
  · rw [if_pos h1]
    rw [decide_eq_true h1] at hcon
    have H := Lib.hid hcon
    clear hcon h1
    go_enter Tryz.func46, Tryz.ntmps46
    go_wp2_with fail
    refine H.out.mono ?_
    rintro e w1 ⟨rfl, rfl⟩
    go_wp2_with fail
    go_ret
    exact ⟨rfl, rfl⟩
  · rw [if_neg h1]
    rw [decide_eq_false h1] at hcon
    have H := Lib.hid hcon
    clear hcon h1
    by_cases h2 : 1048576 < f + len
    · rw [if_pos h2]
      have d1 : decide ((1048576 : Int) - f < (len : Int)) = true := decide_eq_true (by omega)
      go_enter Tryz.func46, Tryz.ntmps46
      go_wp2_with fail
      refine H.out.mono ?_
      rintro e w1 ⟨rfl, rfl⟩
      go_wp2_with fail
      go_ret
      exact ⟨rfl, rfl⟩
    · rw [if_neg h2]
      have d1 : decide ((1048576 : Int) - f < (len : Int)) = false := decide_eq_false (by omega)
      go_enter Tryz.func46, Tryz.ntmps46
      go_wp2_with fail
      refine H.out.mono ?_
      rintro e w1 ⟨rfl, rfl⟩
      go_wp2_with fail
      go_ret
      exact ⟨rfl, rfl⟩

end Go.Proofs.YtaonjbkkgeiniaaGreatDoor
