/- money.Parse at "-0.05". -/
import Derived.Test.YtikjnfghlohjkaaGreatDoorMonE
import Derived.Test.YtikjnfghlohjkaaGreatDoorShelfB
import Derived.Lib.AtoiErrMem
import Derived.BigQuiet
import Derived.BigRegion
import Derived.Deep.QuietTactic
namespace Go.Proofs.YtikjnfghlohjkaaGreatDoor
open Go.RowKit Go.Shelf Go.Lib

/-- strconv.ErrRange, as its initialiser lays it -/
def RngT (w : World) : Prop := ∃ t y, w.cell? ⟨0, 0, none⟩ = some (.iface t y)
theorem RngT.keep {w w' : World} (h : RngT w) (hb : Below w.heap.size w w') : RngT w' := by
  obtain ⟨t, y, h⟩ := h
  exact ⟨t, y, (hb.cell (p := ⟨0, 0, none⟩) (cell_lt h)).trans h⟩
theorem ex1 : (⟨#[45, 48, 46, 48, 53]⟩ : ByteArray).extract 0 1 = ⟨#[45]⟩ := by decide +kernel
theorem ex2 : (⟨#[45, 48, 46, 48, 53]⟩ : ByteArray).extract 1 5 = ⟨#[48, 46, 48, 53]⟩ := by decide +kernel
theorem ex3 : (⟨#[48, 46, 48, 53]⟩ : ByteArray).extract 0 1 = ⟨#[48]⟩ := by decide +kernel
theorem ex4 : (⟨#[48, 46, 48, 53]⟩ : ByteArray).extract 2 4 = ⟨#[48, 53]⟩ := by decide +kernel
set_option maxRecDepth 20000 in
theorem hasp_ex (w : World) : Calls Tryz.prog 49 #[.string ⟨#[45, 48, 46, 48, 53]⟩, .string ⟨#[45]⟩] w fun e w' => e = .returned (.bool true) ∧ w' = w := by
  have h1 := ex1
  go_enter Tryz.func49, Tryz.ntmps49
  go_wp2_with fail
  go_ret
  exact ⟨rfl, rfl⟩
set_option maxRecDepth 20000 in
theorem icutp_ex (w : World) : Calls Tryz.prog 34 #[.string ⟨#[45, 48, 46, 48, 53]⟩, .string ⟨#[45]⟩] w fun e w' => e = .returned (.tuple #[.string ⟨#[48, 46, 48, 53]⟩, .bool true]) ∧ w' = w := by
  have h1 := ex2
  go_enter Tryz.func34, Tryz.ntmps34
  go_wp2_with fail
  refine (hasp_ex _).mono ?_
  rintro e w1 ⟨rfl, rfl⟩
  go_wp2_with fail
  go_ret2
  exact ⟨rfl, rfl⟩
set_option maxRecDepth 20000 in
theorem cutp_ex (w : World) : Calls Tryz.prog 25 #[.string ⟨#[45, 48, 46, 48, 53]⟩, .string ⟨#[45]⟩] w fun e w' => e = .returned (.tuple #[.string ⟨#[48, 46, 48, 53]⟩, .bool true]) ∧ w' = w := by
  go_enter Tryz.func25, Tryz.ntmps25
  go_wp2_with fail
  refine (icutp_ex _).mono ?_
  rintro e w1 ⟨rfl, rfl⟩
  go_wp2_with fail
  go_ret2
  exact ⟨rfl, rfl⟩
set_option maxRecDepth 20000 in
theorem icut_ex (w : World) : Calls Tryz.prog 35 #[.string ⟨#[48, 46, 48, 53]⟩, .string ⟨#[46]⟩] w fun e w' => e = .returned (.tuple #[.string ⟨#[48]⟩, .string ⟨#[48, 53]⟩, .bool true]) ∧ Below w.heap.size w w' := by
  have h1 := ex3
  have h2 := ex4
  have H := Lib.hid (show ∀ w, Calls Tryz.prog 50 #[.string ⟨#[48, 46, 48, 53]⟩, .string ⟨#[46]⟩] w fun e w' => e = .returned (.int .i64 1) ∧ w' = w from fun w => Tryz.stringslite_Index_one ⟨#[48, 46, 48, 53]⟩ 46 w)
  go_enter Tryz.func35, Tryz.ntmps35
  go_wp2_with fail
  refine (H.out _).mono ?_
  rintro e w1 ⟨rfl, rfl⟩
  go_wp2_with fail
  go_quiet (fail)
  go_wp2_with fail
  go_ret3
  exact ⟨rfl, ⟨(Below.refl w1.heap.size w1).os, (Below.refl w1.heap.size w1).tape, rfl, Nat.le_refl _, fun _ _ => rfl⟩⟩
set_option maxRecDepth 20000 in
theorem cut_ex (w : World) : Calls Tryz.prog 26 #[.string ⟨#[48, 46, 48, 53]⟩, .string ⟨#[46]⟩] w fun e w' => e = .returned (.tuple #[.string ⟨#[48]⟩, .string ⟨#[48, 53]⟩, .bool true]) ∧ Below w.heap.size w w' := by
  go_enter Tryz.func26, Tryz.ntmps26
  go_wp2_with fail
  refine (icut_ex _).mono ?_
  rintro e w1 ⟨rfl, hb⟩
  have HB := Lib.hid hb
  clear hb
  go_wp2_with fail
  go_ret3
  exact ⟨rfl, HB.out⟩
theorem trim_ex (w : World) : Calls Tryz.prog 27 #[.string ⟨#[48, 48, 53]⟩, .string ⟨#[48, 49, 50, 51, 52, 53, 54, 55, 56, 57]⟩] w fun e w' => e = .returned (.string ⟨#[]⟩) ∧ Below w.heap.size w w' := by
  have h := Tryz.strings_Trim_laid ⟨#[48, 48, 53]⟩ ⟨#[48, 49, 50, 51, 52, 53, 54, 55, 56, 57]⟩ w (by decide) (by decide) (ascii_of_all (by decide))
  rw [show Lib.trimS (⟨#[48, 48, 53]⟩ : ByteArray).data.toList (⟨#[48, 49, 50, 51, 52, 53, 54, 55, 56, 57]⟩ : ByteArray).data.toList = [] by decide +kernel] at h
  exact h
theorem pu_ex (w : World) : Calls Tryz.prog 28 #[.string ⟨#[48, 48, 53]⟩, .int .i64 10, .int .i64 64] w fun e w' => e = .returned (.tuple #[.int .u64 5, .nilIface]) ∧ Below w.heap.size w w' := by
  refine (Tryz.strconv_ParseUint_ok ⟨#[48, 48, 53]⟩ (by decide) 5 (by decide +kernel) w).mono ?_
  rintro e w' ⟨rfl, rfl | rfl⟩
  · exact ⟨rfl, Below.refl _ _⟩
  · exact ⟨rfl, Lib.bytesWorld_below _ _ _⟩
set_option maxRecDepth 20000 in
theorem is_nil (t : TypeId) (y : Value) (w : World) : Calls Tryz.prog 29 #[.nilIface, .iface t y] w fun e w' => e = .returned (.bool false) ∧ w' = w := by
  have f1 : ∀ w, (binOp .eql 51 .nilIface (.iface t y)).run Tryz.prog w = .ok (.bool false) w := fun w => by kernel_rfl
  go_enter Tryz.func29, Tryz.ntmps29
  go_wp2_with fail
  go_ret
  exact ⟨rfl, rfl⟩
set_option maxRecDepth 20000 in
set_option maxHeartbeats 1000000 in
theorem parse_ex (w : World) (h : RngT w) : Calls Tryz.prog 14 #[.string ⟨#[45, 48, 46, 48, 53]⟩] w fun e w' => e = .returned (.tuple #[.int .i64 (-5), .int .i64 0]) ∧ Below w.heap.size w w' := by
  have HR := Lib.hid h
  clear h
  go_enter Tryz.func14, Tryz.ntmps14
  go_wp2_with fail
  refine (cutp_ex _).mono ?_
  rintro e w1 ⟨rfl, rfl⟩
  go_wp2_with fail
  refine (cut_ex _).mono ?_
  rintro e w2 ⟨rfl, hb2⟩
  have HB2 := Lib.hid hb2
  clear hb2
  go_wp2_with fail
  refine (trim_ex _).mono ?_
  rintro e w3 ⟨rfl, hb3⟩
  have HB3 := Lib.hid (bel_trans HB2.out hb3)
  clear hb3
  go_wp2_with fail
  refine (pu_ex _).mono ?_
  rintro e w4 ⟨rfl, hb4⟩
  have HB4 := Lib.hid (bel_trans HB3.out hb4)
  clear hb4
  obtain ⟨t, y, g0⟩ := HR.out.keep HB4.out
  go_wp2_with fail
  refine (is_nil _ _ _).mono ?_
  rintro e w5 ⟨rfl, rfl⟩
  go_wp2_with fail
  go_ret2
  exact ⟨rfl, HB4.out⟩
end Go.Proofs.YtikjnfghlohjkaaGreatDoor
