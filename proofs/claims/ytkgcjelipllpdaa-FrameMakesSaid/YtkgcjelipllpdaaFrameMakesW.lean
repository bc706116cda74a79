/- The walk over FrameMakes. -/
import Derived.Test.YtkgcjelipllpdaaRef10T
import Derived.Test.YtkgcjelipllpdaaWorks
namespace Go.Proofs.Ytkgcjelipllpdaa
open Go.RowKit

set_option maxHeartbeats 400000 in
theorem makes_long (seq : Int) (s : ByteArray) (n : Int) (w : World) (h : 6000 < s.size) :
    Calls Try.prog 7 #[.int .i64 seq, .string s, .int .i64 n] w fun e w' => e = .returned (.bool true) ∧ Below w.heap.size w w' := by
  have d1 : decide ((6000 : Int) < (s.size : Int)) = true := decide_eq_true (by omega)
  go_enter Try.func7, Try.ntmps7
  go_wp2_with fail
  refine (works_any w).mono ?_
  rintro e w1 ⟨rfl, hb1⟩
  go_wp2_with fail
  go_ret
  exact ⟨rfl, hb1⟩

set_option maxHeartbeats 1000000 in
theorem makes_main (seq : Int) (s : ByteArray) (n : Int) (w : World) (h : s.size ≤ 6000) :
    Calls Try.prog 7 #[.int .i64 seq, .string s, .int .i64 n] w fun e w' => e = .returned (.bool true) ∧ Below w.heap.size w w' := by
  have d1 : decide ((6000 : Int) < (s.size : Int)) = false := decide_eq_false (by omega)
  have h1 := fun w => make_any seq s w (by omega)
  have h2 := fun w => rmake_any seq s w (by omega)
  generalize mkS seq s = t at h1 h2
  generalize mkE seq s = k at h1 h2
  have H1 := Lib.hid h1
  have H2 := Lib.hid h2
  clear h1 h2
  by_cases hn : lenOk n
  · have hz : szOf n = n + 16 := by unfold szOf; rw [if_pos hn, Int.add_comm]
    have HZ := Lib.hid hz
    obtain ⟨n1, n2⟩ := hn
    have d2 : decide (1 ≤ n) = true := decide_eq_true n1
    have d3 : decide (n ≤ 4096) = true := decide_eq_true n2
    clear hz
    go_enter Try.func7, Try.ntmps7
    go_wp2_with fail
    refine (H1.out _).mono ?_
    rintro e w1 ⟨rfl, hb1⟩
    go_wp2_with fail
    refine (H2.out _).mono ?_
    rintro e w2 ⟨rfl, hb2⟩
    go_wp2_with fail
    refine (size_any _ _).mono ?_
    rintro e w' ⟨rfl, rfl⟩
    rw [HZ.out]
    go_wp2_with fail
    refine (works_any _).mono ?_
    rintro e w3 ⟨rfl, hb3⟩
    go_wp2_with fail
    go_ret
    exact ⟨rfl, bel_trans (bel_trans hb1 hb2) hb3⟩
  · have hz : szOf n = 0 := by unfold szOf; rw [if_neg hn]
    have HZ := Lib.hid hz
    have hd : decide (1 ≤ n) = false ∨ (decide (1 ≤ n) = true ∧ decide (n ≤ 4096) = false) := by
      by_cases g : 1 ≤ n
      · exact .inr ⟨decide_eq_true g, decide_eq_false (fun g2 => hn ⟨g, g2⟩)⟩
      · exact .inl (decide_eq_false g)
    clear hz hn
    rcases hd with d2 | ⟨d2, d3⟩
    all_goals
      go_enter Try.func7, Try.ntmps7
      go_wp2_with fail
      refine (H1.out _).mono ?_
      rintro e w1 ⟨rfl, hb1⟩
      go_wp2_with fail
      refine (H2.out _).mono ?_
      rintro e w2 ⟨rfl, hb2⟩
      go_wp2_with fail
      refine (size_any _ _).mono ?_
      rintro e w' ⟨rfl, rfl⟩
      rw [HZ.out]
      go_wp2_with fail
      refine (works_any _).mono ?_
      rintro e w3 ⟨rfl, hb3⟩
      go_wp2_with fail
      go_ret
      exact ⟨rfl, bel_trans (bel_trans hb1 hb2) hb3⟩

theorem makes_any (seq : Int) (s : ByteArray) (n : Int) (w : World) :
    Calls Try.prog 7 #[.int .i64 seq, .string s, .int .i64 n] w fun e w' => e = .returned (.bool true) ∧ Below w.heap.size w w' := by
  by_cases h : 6000 < s.size
  · exact makes_long seq s n w h
  · exact makes_main seq s n w (by omega)

end Go.Proofs.Ytkgcjelipllpdaa
