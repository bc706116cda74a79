/- The walk over souklaw01.awake: the examples are as they are told. -/
import Derived.Test.YtdcfefhlhphdiaaCrcA
namespace Go.Proofs.Ytdcfefhlhphdiaa
open Go.RowKit

theorem of_lit (a : Array UInt8) (n : Int) (h : ((crc a.toList).toNat : Int) = n) (hl : a.size ≤ 1000) (w : World) :
    Calls Try.prog 13 #[.string ⟨a⟩] w fun e w' => e = .returned (.int .u32 n) ∧ Below w.heap.size w w' := by
  subst h
  exact of_str ⟨a⟩ w (by show a.size ≤ _; omega)
theorem add_lit (a : Array UInt8) (c n : Int) (c' : BitVec 32) (hc : (c'.toNat : Int) = c) (h : ((add c' a.toList).toNat : Int) = n) (hl : a.size ≤ 1000) (w : World) :
    Calls Try.prog 18 #[.int .u32 c, .string ⟨a⟩] w fun e w' => e = .returned (.int .u32 n) ∧ Below w.heap.size w w' := by
  subst h; subst hc
  exact add_str c' ⟨a⟩ w (by show a.size ≤ _; omega)
theorem seal_lit (a b : Array UInt8) (h : sealL a.toList = b.toList) (hl : a.size ≤ 1000) (w : World) :
    Calls Try.prog 15 #[.string ⟨a⟩] w fun e w' => e = .returned (.string ⟨b⟩) ∧ Below w.heap.size w w' := by
  refine (seal_str ⟨a⟩ w (by show a.size ≤ _; omega)).mono ?_
  intro e w' h'
  rw [show (ByteArray.mk a).data.toList = a.toList from rfl, h] at h'
  exact h'

set_option maxHeartbeats 400000 in
theorem awake_any (w : World) :
    Calls Try.prog 12 #[] w fun e w' => e = .returned (.bool true) ∧ Below w.heap.size w w' := by
  go_enter Try.func12, Try.ntmps12
  go_wp2_with fail
  with_reducible refine (of_lit #[] 0 (by decide +kernel) (by decide) _).mono ?_
  rintro e w1 ⟨rfl, hb1⟩
  go_wp2_with fail
  with_reducible refine (of_lit #[49, 50, 51, 52, 53, 54, 55, 56, 57] 3421780262 (by decide +kernel) (by decide) _).mono ?_
  rintro e w2 ⟨rfl, hb2⟩
  go_wp2_with fail
  with_reducible refine (of_lit #[97] 3904355907 (by decide +kernel) (by decide) _).mono ?_
  rintro e w3 ⟨rfl, hb3⟩
  go_wp2_with fail
  with_reducible refine (add_lit #[98, 99] 3904355907 891568578 3904355907#32 (by decide +kernel) (by decide +kernel) (by decide) _).mono ?_
  rintro e w4 ⟨rfl, hb4⟩
  go_wp2_with fail
  with_reducible refine (of_lit #[97, 98, 99] 891568578 (by decide +kernel) (by decide) _).mono ?_
  rintro e w5 ⟨rfl, hb5⟩
  go_wp2_with fail
  with_reducible refine (seal_lit #[97] #[97, 67, 190, 183, 232] (by decide +kernel) (by decide) _).mono ?_
  rintro e w6 ⟨rfl, hb6⟩
  go_wp2_with fail
  go_ret
  refine ⟨rfl, ?_⟩
  have t1 := hb1.trans (hb2.mono hb1.size)
  have t2 := t1.trans (hb3.mono t1.size)
  have t3 := t2.trans (hb4.mono t2.size)
  have t4 := t3.trans (hb5.mono t3.size)
  exact t4.trans (hb6.mono t4.size)

end Go.Proofs.Ytdcfefhlhphdiaa
