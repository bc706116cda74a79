/- souklaw12.heavy. -/
import Derived.Test.YtmeefecpnfclpaaIdxE
namespace Go.Proofs.Ytmeefecpnfclpaa
open Go.RowKit Go.Shelf
attribute [local go_sem] Oper.semAt_some

/-- heavy's count, behind k payloads -/
def hvN (z : List ByteArray) (k : Nat) : Nat := sizeF ((paysL z).take k) + 4 * k
theorem hv_succ (z : List ByteArray) (k : Nat) (h : k < z.length) : hvN z (k + 1) = hvN z k + 20 + (z.getD k ByteArray.empty).size := by
  unfold hvN
  rw [size_take_succ _ _ (by rw [pays_len]; exact h), pays_get z k h]
  show _ + (16 + (z.getD k ByteArray.empty).size) + _ = _
  omega

/-- what heavy tells -/
def hvP (z : List ByteArray) (len : Nat) (w : World) (e : Ending) (w' : World) : Prop := ∃ b, e = .returned (.bool b) ∧ (b = false → sizeF (paysL z) + 4 * len < 12000) ∧ w = w'

set_option maxRecDepth 100000 in
set_option maxHeartbeats 4000000 in
theorem heavy_any {len cap : Nat} {oa : Option Addr} (z : List ByteArray) (w : World) (h : StrsIn w oa len cap z) :
    Calls Try.prog 16 #[.slice oa len cap] w (hvP z len w) := by
  have HZ := Lib.hid h
  obtain ⟨hzl, _, _, hss, _⟩ := h
  have HSS := Lib.hid hss
  clear hss
  go_enter Try.func16, Try.ntmps16
  go_wp2_with fail
  go_loop [3, 4] (fun n i => ∃ k : Nat, k ≤ len ∧ i = .int .i64 k ∧ n = .int .i64 (hvN z k : Nat) ∧ (k = 0 ∨ hvN z (k - 1) < 12000)) (fun _ i => len - (intOf i).toNat)
  case atStart => exact ⟨0, Nat.zero_le _, rfl, rfl, .inl rfl⟩
  case round =>
    obtain ⟨k, hk, rfl, rfl, hprev⟩ := hrel
    have hmax : hvN z k ≤ 140737488400000 := by
      by_cases h0 : k = 0
      · subst h0; show 0 ≤ _; omega
      · rcases hprev with h | hp
        · exact absurd h h0
        · have h1 := hv_succ z (k - 1) (by omega)
          rw [show k - 1 + 1 = k by omega] at h1
          have h2 := HSS.out (z.getD (k - 1) ByteArray.empty) (by rw [List.getD_eq_getElem?_getD, List.getElem?_eq_getElem (by omega)]; exact List.getElem_mem _)
          omega
    by_cases hgo : k < len ∧ hvN z k < 12000
    · obtain ⟨hlt, h12⟩ := hgo
      have hsucc := hv_succ z k (by omega)
      have hs := HSS.out (z.getD k ByteArray.empty) (by rw [List.getD_eq_getElem?_getD, List.getElem?_eq_getElem (by omega)]; exact List.getElem_mem _)
      obtain ⟨_, _, _, _, hcl⟩ := HZ.out
      rcases hcl with h0 | ⟨bb, off, rfl, hbb, hc⟩
      · omega
      have hcell := hc k hlt
      obtain ⟨s, es⟩ : ∃ s, z.getD k ByteArray.empty = s := ⟨_, rfl⟩
      rw [es] at hsucc hcell hs
      obtain ⟨n, en⟩ : ∃ n, hvN z k = n := ⟨_, rfl⟩
      rw [en] at hsucc hmax h12 ⊢
      have hd1 : decide ((k : Int) < (len : Int)) = true := decide_eq_true (by omega)
      have hd2 : decide ((n : Int) < 12000) = true := decide_eq_true (by omega)
      have hw1 : IntKind.i64.wrap ((n : Int) + 20) = (n : Int) + 20 := IntWalk.i64_in _ (by omega)
      have hw2 : IntKind.i64.wrap ((n : Int) + 20 + (s.size : Int)) = (n : Int) + 20 + (s.size : Int) := IntWalk.i64_in _ (by omega)
      have HS := Lib.hid hsucc
      have HN := Lib.hid en
      clear hsucc en es hc
      go_wp2_with fail
      go_round
      case rel => exact ⟨k + 1, by omega, by go_num, by rw [HS.out]; go_num, .inr (by rw [Nat.add_sub_cancel, HN.out]; exact h12)⟩
      case measure => simp [intOf]; omega
    · have hall : 12000 ≤ hvN z k ∨ k = len := by omega
      have hend : k = len → hvN z k = sizeF (paysL z) + 4 * len := by
        rintro rfl
        unfold hvN
        rw [List.take_of_length_le (by rw [pays_len]; omega)]
      obtain ⟨n, en⟩ : ∃ n, hvN z k = n := ⟨_, rfl⟩
      rw [en] at hmax hall hend hgo ⊢
      have HA := Lib.hid hall
      have HE := Lib.hid hend
      clear en hall hend hprev
      have fin : decide ((12000 : Int) ≤ (n : Int)) = false → sizeF (paysL z) + 4 * len < 12000 := by
        intro hd
        have := of_decide_eq_false hd
        have := HE.out (by have := HA.out; omega)
        omega
      have HF := Lib.hid fin
      clear fin
      by_cases hkl : k < len
      · have hd1 : decide ((k : Int) < (len : Int)) = true := decide_eq_true (by omega)
        have hd2 : decide ((n : Int) < 12000) = false := decide_eq_false (by omega)
        go_wp2_with fail
        go_ret
        exact ⟨_, rfl, HF.out, rfl⟩
      · have hd1 : decide ((k : Int) < (len : Int)) = false := decide_eq_false (by omega)
        go_wp2_with fail
        go_ret
        exact ⟨_, rfl, HF.out, rfl⟩

end Go.Proofs.Ytmeefecpnfclpaa
