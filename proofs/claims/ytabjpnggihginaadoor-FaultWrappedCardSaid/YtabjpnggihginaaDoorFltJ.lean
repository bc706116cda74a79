/- souklaw04.made. -/
import Derived.Test.YtabjpnggihginaaDoorFltI
import Derived.StillTailTactics
namespace Go.Proofs.YtabjpnggihginaaDoor
open Go.RowKit Go.Extern.Stop Go.Stop Go.Extern Go.Shelf

set_option maxRecDepth 20000 in
set_option maxHeartbeats 2000000 in
theorem made_any (a : Option Addr) (len cap : Nat) (z : List Wr) (n : Int) (w : World) (h : WrsIn w a len cap z) :
    Calls Tryd.prog 10 #[.slice a len cap, .int .i64 n] w fun e w' => ∃ v, e = .returned v ∧ Chn w' (.iface 23 (.int .i64 n)) z v ∧ Below w.heap.size w w' := by
  obtain ⟨hl, hc, hm, _, hz⟩ := h
  go_enter Tryd.func10, Tryd.ntmps10
  go_wp2_with fail
  have HZ := Lib.hid hz
  have HL := Lib.hid hl
  clear hz hl
  go_loopw [5, 6] (fun v iv wr => ∃ (k : Nat), k ≤ len ∧ iv = .int .i64 ((k : Int) - 1) ∧ Chn wr (.iface 23 (.int .i64 n)) (z.drop k) v ∧ Below w.heap.size w wr) (fun _ iv _ => (intOf iv + 1).toNat)
  case atStart => exact ⟨len, Nat.le_refl _, rfl, by rw [List.drop_of_length_le (by rw [HL.out]; exact Nat.le_refl _)]; rfl, Below.refl _ _⟩
  case round =>
    obtain ⟨k, hk, rfl, hch, hb⟩ := hrel
    cases k with
    | zero =>
      have HC := Lib.hid hch
      have HB := Lib.hid hb
      clear hch hb
      go_wp2_with fail
      go_ret
      exact ⟨_, rfl, HC.out, HB.out⟩
    | succ k =>
      obtain ⟨x, hx⟩ : ∃ x, z[k]? = some x := ⟨_, List.getElem?_eq_getElem (by rw [HL.out]; omega)⟩
      rcases HZ.out with h0 | ⟨b, off, rfl, hbl, hcells⟩
      · omega
      obtain ⟨y0, y1, y2⟩ := hcells k x hx
      obtain ⟨t, y, rfl⟩ := hch.iface
      have z0 := (hb.cell (p := ⟨b, off + k * 3, none⟩) hbl).trans y0
      have z1 := (hb.cell (p := ⟨b, off + k * 3 + 1, none⟩) hbl).trans y1
      have z2 := (hb.cell (p := ⟨b, off + k * 3 + 2, none⟩) hbl).trans y2
      have g0 : (0 : Int) ≤ (k : Int) := by omega
      have g1 : (k : Int) < (len : Int) := by omega
      have d2 : decide ((0 : Int) ≤ (k : Int)) = true := decide_eq_true (by omega)
      rw [show (((k + 1 : Nat) : Int) - 1) = (k : Int) by omega]
      have HC := Lib.hid hch
      have HB := Lib.hid hb
      clear hcells y0 y1 y2 HZ hch hb
      go_wp2_with fail
      go_still_tail 16, (by kernel_rfl)
      change wpList _ _ _ _ _ wr.drew
      have HC1 := Lib.hid (show Chn wr.drew (.iface 23 (.int .i64 n)) (z.drop (k + 1)) (.iface t y) from HC.out.keep (fun _ _ => rfl))
      have HB1 := Lib.hid HB.out.drew
      obtain ⟨w1, e1⟩ : ∃ w1, wr.drew = w1 := ⟨_, rfl⟩
      rw [e1] at HC1 HB1 ⊢
      clear HC HB z0 z1 z2 e1
      go_wp2_with fail
      refine (wrap_any t y x.op x.nm x.pl w1).mono ?_
      rintro e w2 ⟨rfl, rfl⟩
      go_wp2_with fail
      go_roundw
      case rel =>
        refine ⟨k, by omega, rfl, ?_, HB1.out.alloc HB1.out.size _⟩
        have hd : z.drop k = x :: z.drop (k + 1) := by
          rw [List.drop_eq_getElem_cons (by rw [HL.out]; omega)]
          rw [List.getElem?_eq_getElem (by rw [HL.out]; omega)] at hx
          rw [Option.some.inj hx]
        rw [hd]
        exact HC1.out.wrap _ _ _
      case measure => simp [intOf]
end Go.Proofs.YtabjpnggihginaaDoor
