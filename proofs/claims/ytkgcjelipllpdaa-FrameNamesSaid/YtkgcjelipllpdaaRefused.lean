/- souklaw10: refused. -/
import Derived.Test.YtkgcjelipllpdaaWorks
namespace Go.Proofs.Ytkgcjelipllpdaa
open Go.RowKit

set_option maxHeartbeats 400000 in
theorem refused_to (s : ByteArray) (a : Int) (e : Nat) (w : World) (hs : s.size ≤ 1000000) (h : rdE s.data.toList a = e) (he : e ≠ 0) :
    Calls Try.prog 19 #[.string s, .int .i64 a, .int .i64 e] w fun x w' => x = .returned (.bool true) ∧ Below w.heap.size w w' := by
  have hr := read_any s a w hs
  unfold readV at hr
  rw [h, if_neg he] at hr
  unfold frV frCells at hr
  have HR := Lib.hid hr
  clear hr h he
  go_enter Try.func19, Try.ntmps19
  go_wp2_with fail
  refine HR.out.mono ?_
  rintro e w2 ⟨rfl, hb2⟩
  go_wp2_with fail
  go_ret
  exact ⟨rfl, bel_alloc hb2 _⟩

end Go.Proofs.Ytkgcjelipllpdaa
