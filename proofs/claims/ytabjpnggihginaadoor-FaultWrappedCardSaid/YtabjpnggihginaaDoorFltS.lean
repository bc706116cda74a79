/- FormatInt of the few small numbers that the examples show. -/
import Derived.Test.YtabjpnggihginaaDoorFltK
namespace Go.Proofs.YtabjpnggihginaaDoor
open Go.RowKit Go.Extern.Stop Go.Stop Go.Extern Go.Shelf

set_option maxRecDepth 100000 in
set_option maxHeartbeats 4000000 in
theorem small_44 (w : World) : Calls Tryd.prog 41 #[.int .i64 44, .int .i64 10] w fun e w' => e = .returned (.string ⟨#[52, 52]⟩) ∧ Below w.heap.size w w' := by
  go_enter Tryd.func41, Tryd.ntmps41
  go_wp2
  go_ret
  exact ⟨by kernel_rfl, Below.refl _ _⟩
set_option maxRecDepth 100000 in
set_option maxHeartbeats 4000000 in
theorem small_7 (w : World) : Calls Tryd.prog 41 #[.int .i64 7, .int .i64 10] w fun e w' => e = .returned (.string ⟨#[55]⟩) ∧ Below w.heap.size w w' := by
  go_enter Tryd.func41, Tryd.ntmps41
  go_wp2
  go_ret
  exact ⟨by kernel_rfl, Below.refl _ _⟩
set_option maxRecDepth 100000 in
set_option maxHeartbeats 4000000 in
theorem small_0 (w : World) : Calls Tryd.prog 41 #[.int .i64 0, .int .i64 10] w fun e w' => e = .returned (.string ⟨#[48]⟩) ∧ Below w.heap.size w w' := by
  go_enter Tryd.func41, Tryd.ntmps41
  go_wp2
  go_ret
  exact ⟨by kernel_rfl, Below.refl _ _⟩
set_option maxRecDepth 100000 in
set_option maxHeartbeats 4000000 in
theorem small_1 (w : World) : Calls Tryd.prog 41 #[.int .i64 1, .int .i64 10] w fun e w' => e = .returned (.string ⟨#[49]⟩) ∧ Below w.heap.size w w' := by
  go_enter Tryd.func41, Tryd.ntmps41
  go_wp2
  go_ret
  exact ⟨by kernel_rfl, Below.refl _ _⟩
set_option maxRecDepth 100000 in
set_option maxHeartbeats 4000000 in
theorem small_45 (w : World) : Calls Tryd.prog 41 #[.int .i64 45, .int .i64 10] w fun e w' => e = .returned (.string ⟨#[52, 53]⟩) ∧ Below w.heap.size w w' := by
  go_enter Tryd.func41, Tryd.ntmps41
  go_wp2
  go_ret
  exact ⟨by kernel_rfl, Below.refl _ _⟩

def smF (n : Int) : ByteArray := if n = 44 then ⟨#[52, 52]⟩ else if n = 7 then ⟨#[55]⟩ else if n = 0 then ⟨#[48]⟩ else if n = 1 then ⟨#[49]⟩ else ⟨#[52, 53]⟩
def smO (n : Int) : Prop := n = 44 ∨ n = 7 ∨ n = 0 ∨ n = 1 ∨ n = 45
theorem fmt_small (w : World) : Fmt w smF smO := by
  rintro n (rfl | rfl | rfl | rfl | rfl)
  · exact ⟨by decide +kernel, fun w' _ => small_44 w'⟩
  · exact ⟨by decide +kernel, fun w' _ => small_7 w'⟩
  · exact ⟨by decide +kernel, fun w' _ => small_0 w'⟩
  · exact ⟨by decide +kernel, fun w' _ => small_1 w'⟩
  · exact ⟨by decide +kernel, fun w' _ => small_45 w'⟩
theorem fmtS_small (w : World) : FmtS w smF smO := ⟨fmt_small w, .inl rfl, .inr (.inl rfl), rfl, rfl⟩
end Go.Proofs.YtabjpnggihginaaDoor
