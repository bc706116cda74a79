/- souklaw11.SegScans: its walk. -/
import Derived.Test.YtaonjbkkgeiniaaGreatDoorSgIs
import Derived.Test.YtaonjbkkgeiniaaGreatDoorSgRa
import Derived.Test.YtaonjbkkgeiniaaGreatDoorSgW
import Derived.Deep.RegionHeld3
namespace Go.Proofs.YtaonjbkkgeiniaaGreatDoor
open Go.RowKit

/-- both scans of any bytes -/
theorem scan_both (s : ByteArray) (hs : s.size ≤ 1000000) : ∃ (F G : Int) (W : Bool) (n : Nat) (X : List Value) (E : Int), (0 ≤ F ∧ F ≤ 1000000000) ∧ n ≤ 1000000 ∧ triX X n ∧
    (∀ w, Calls Tryz.prog 26 #[.string s] w fun e w' => ∃ oa cap, e = .returned (.tuple #[.agg #[.int .i64 F, .slice oa n cap, .int .i64 G, .bool W], .int .i64 E]) ∧ w'.ownsRow w.heap.size 60 3 (.slice oa n cap) n X ∧ Below w.heap.size w w') ∧
    (∀ w, Calls Tryz.prog 25 #[.string s] w fun e w' => ∃ oa cap, e = .returned (.tuple #[.agg #[.int .i64 F, .slice oa n cap, .int .i64 G, .bool W], .int .i64 E]) ∧ w'.ownsRow w.heap.size 95 3 (.slice oa n cap) n X ∧ Below w.heap.size w w') := by
  by_cases h : hdE s.data.toList = 0
  · have hb := (hd_ok h).2.2.2
    refine ⟨hdF s.data.toList, scanG s.data.toList 16 (hdF s.data.toList), decide (scanG s.data.toList 16 (hdF s.data.toList) = s.size), (scanL s.data.toList 16 (hdF s.data.toList)).length, frRow s (scanL s.data.toList 16 (hdF s.data.toList)), 0, by omega, ?_, tri_row s _, fun w => sscan_ok s w hs h, fun w => rsscan_ok s w hs h⟩
    unfold scanL
    by_cases g : (16 : Int) < 0 ∨ (s.data.toList.length : Int) < 16
    · rw [if_pos g]; show 0 ≤ _; omega
    · rw [if_neg g]
      have hl : s.data.toList.length = s.size := rfl
      have := scanP_len s.data.toList (s.data.toList.length + 1) (16 : Int).toNat (hdF s.data.toList) (by omega)
      omega
  · refine ⟨0, 0, false, 0, [], hdE s.data.toList, by omega, by omega, fun i hi => by omega, fun w => (sscan_bad s w h).mono ?_, fun w => (rsscan_bad s w hs h).mono ?_⟩
    · rintro e w' ⟨rfl, hb⟩
      exact ⟨none, 0, rfl, World.ownsRow_nil _ _ _ _, hb⟩
    · rintro e w' ⟨rfl, hb⟩
      exact ⟨none, 0, rfl, World.ownsRow_nil _ _ _ _, hb⟩

theorem next_is (f : Int) (oa : Option Addr) (n cap : Nat) (g : Int) (b : Bool) (w : World) (hf : 0 ≤ f ∧ f ≤ 1000000000) (hn : n ≤ 1000000000) :
    Calls Tryz.prog 27 #[.agg #[.int .i64 f, .slice oa n cap, .int .i64 g, .bool b]] w fun e w' => e = .returned (.int .i64 (f + n)) ∧ Below w.heap.size w w' := next_any f oa n cap g b w hf hn
/-- what the region's loads read -/
def scR (W1 : World) (gw gx : Nat) (F G : Int) (oa ob : Option Addr) (c ca cb : Nat) (W : Bool) (w' : World) : Prop :=
  Below W1.heap.size W1 w' ∧ w'.heap[gw]? = some (.cells #[.int .i64 F, .slice ob c cb, .int .i64 G, .bool W] 41) ∧ w'.heap[gx]? = some (.cells #[.int .i64 F, .slice oa c ca, .int .i64 G, .bool W] 46)
theorem scS_of {W1 : World} {gw gx : Nat} {F G : Int} {oa ob : Option Addr} {c ca cb : Nat} {W : Bool} {w' : World} (h : scR W1 gw gx F G oa ob c ca cb W w') :
    (w'.cell? ⟨gw, 0, none⟩ = some (.int .i64 F) ∧ w'.cell? ⟨gw, 1, none⟩ = some (.slice ob c cb) ∧ w'.cell? ⟨gw, 2, none⟩ = some (.int .i64 G) ∧ w'.cell? ⟨gw, 3, none⟩ = some (.bool W)) ∧
    (w'.cell? ⟨gx, 0, none⟩ = some (.int .i64 F) ∧ w'.cell? ⟨gx, 1, none⟩ = some (.slice oa c ca) ∧ w'.cell? ⟨gx, 2, none⟩ = some (.int .i64 G) ∧ w'.cell? ⟨gx, 3, none⟩ = some (.bool W)) ∧ scR W1 gw gx F G oa ob c ca cb W w' := by
  obtain ⟨_, h1, h2⟩ := id h
  exact ⟨⟨by rw [cell_of_row _ _ _ _ _ _ h1]; rfl, by rw [cell_of_row _ _ _ _ _ _ h1]; rfl, by rw [cell_of_row _ _ _ _ _ _ h1]; rfl, by rw [cell_of_row _ _ _ _ _ _ h1]; rfl⟩, ⟨by rw [cell_of_row _ _ _ _ _ _ h2]; rfl, by rw [cell_of_row _ _ _ _ _ _ h2]; rfl, by rw [cell_of_row _ _ _ _ _ _ h2]; rfl, by rw [cell_of_row _ _ _ _ _ _ h2]; rfl⟩, h⟩
theorem scR_keep {W1 : World} {gw gx : Nat} {F G : Int} {oa ob : Option Addr} {c ca cb : Nat} {W : Bool} {w' w2 : World} (h : scR W1 gw gx F G oa ob c ca cb W w') (hb : Below w'.heap.size w' w2) : scR W1 gw gx F G oa ob c ca cb W w2 :=
  ⟨h.1.trans (hb.mono h.1.size), (hb.block _ (Array.getElem?_eq_some_iff.1 h.2.1).1).trans h.2.1, (hb.block _ (Array.getElem?_eq_some_iff.1 h.2.2).1).trans h.2.2⟩
theorem scR_one {W1 : World} {gw gx : Nat} {F G : Int} {oa ob : Option Addr} {c ca cb : Nat} {W : Bool} {w' : World} (h : scR W1 gw gx F G oa ob c ca cb W w') : Below W1.heap.size W1 w' := h.1
theorem scR_is {W1 : World} {gw gx : Nat} {F G : Int} {oa ob : Option Addr} {c ca cb : Nat} {W : Bool} {w' w2 : World} (h : scR W1 gw gx F G oa ob c ca cb W w') (hg : gw < W1.heap.size) (hx : ∀ g, oa = some ⟨g, 0, none⟩ → gx ≠ g)
    (h1 : Below W1.heap.size W1 w2) (h2 : ∀ k, k < w'.heap.size → (∀ g, oa = some ⟨g, 0, none⟩ → k ≠ g) → w2.heap[k]? = w'.heap[k]?) : scR W1 gw gx F G oa ob c ca cb W w2 :=
  ⟨h1, (h1.block _ hg).trans ((h.1.block _ hg).symm.trans h.2.1), (h2 _ (Array.getElem?_eq_some_iff.1 h.2.2).1 hx).trans h.2.2⟩

set_option maxRecDepth 100000 in
set_option maxHeartbeats 8000000 in
theorem scans_any (s : ByteArray) (size n most : Int) (hs : -9223372036854775808 ≤ size ∧ size ≤ 9223372036854775807) (hm : -9223372036854775808 ≤ most ∧ most ≤ 9223372036854775807) (w : World) (h : Laid w) :
    Calls Tryz.prog 5 #[.string s, .int .i64 size, .int .i64 n, .int .i64 most] w fun r w' => r = .returned (.bool true) ∧ Below w.heap.size w w' := by
  have HL := Lib.hid h
  clear h
  have f1 := fun w => fits_any size n most hs hm w
  have f2 := fun w => rfits_any size n most hs hm w
  have f3 := fun w => fits_any 16 n most (by omega) hm w
  have f4 := fun w => rfits_any 16 n most (by omega) hm w
  by_cases hl : 20000 < s.size
  · have d1 : decide ((20000 : Int) < (s.size : Int)) = true := decide_eq_true (by omega)
    clear hl f1 f2 f3 f4
    go_enter Tryz.func5, Tryz.ntmps5
    go_wp2_with fail
    refine (awake_any _ HL.out).mono ?_
    rintro r w1 ⟨rfl, hb1⟩
    have HB1 := Lib.hid hb1
    clear hb1
    go_wp2_with fail
    go_ret
    exact ⟨rfl, HB1.out⟩
  have d1 : decide ((20000 : Int) < (s.size : Int)) = false := decide_eq_false (by omega)
  obtain ⟨F, G, W, c, X, E, hF, hc, hX, k1, k2⟩ := scan_both s (by omega)
  generalize fitB size n most = b1 at *
  generalize fitB 16 n most = b2 at *
  have F1 := Lib.hid f1
  have F2 := Lib.hid f2
  have F3 := Lib.hid f3
  have F4 := Lib.hid f4
  have K1 := Lib.hid k1
  have K2 := Lib.hid k2
  have HX := Lib.hid hX
  have HF := Lib.hid hF
  have e1 : IntKind.i64.wrap (F + (c : Int)) = F + (c : Int) := IntWalk.i64_in _ (by omega)
  clear f1 f2 f3 f4 k1 k2 hX hl hs hm hF
  go_enter Tryz.func5, Tryz.ntmps5
  go_wp2_with fail
  refine (K2.out _).mono ?_
  rintro r w1 ⟨ob, cb, rfl, hy, hb⟩
  have HY := Lib.hid hy
  have HB1 := Lib.hid hb
  clear hy hb
  go_wp2_with fail
  obtain ⟨W1, hW1⟩ : ∃ W1, w1.alloc (.cells #[.int .i64 F, .slice ob c cb, .int .i64 G, .bool W] 41) = W1 := ⟨_, rfl⟩
  have hblk : W1.heap[w1.heap.size]? = some (.cells #[.int .i64 F, .slice ob c cb, .int .i64 G, .bool W] 41) := by rw [← hW1]; exact heap_alloc_new _ _
  have HY1 := Lib.hid (show W1.ownsRow w.heap.size 95 3 (.slice ob c cb) c X by rw [← hW1]; exact ownsRow_below HY.out ((Below.refl _ _).alloc (Nat.le_refl _) _))
  have HB2 := Lib.hid (show Below w.heap.size w W1 by rw [← hW1]; exact HB1.out.alloc HB1.out.size _)
  have hgl : w1.heap.size < W1.heap.size := (Array.getElem?_eq_some_iff.1 hblk).1
  generalize w1.heap.size = gw at *
  rw [hW1]
  have HBK := Lib.hid hblk
  clear hW1 hblk HY HB1
  go_loopw [11] (fun iv wr => ∃ r : Nat, r ≤ 2 ∧ iv = .int .i64 r ∧ Below W1.heap.size W1 wr) (fun iv _ => 2 - (intOf iv).toNat)
  case atStart => exact ⟨0, by omega, rfl, Below.refl _ _⟩
  case round =>
    obtain ⟨r, hr, rfl, hb⟩ := hrel
    have HB3 := Lib.hid hb
    clear hb
    by_cases hr2 : r < 2
    case neg =>
      obtain rfl : r = 2 := by omega
      have HB4 := Lib.hid (HB2.out.trans (HB3.out.mono HB2.out.size))
      go_wp2_with fail
      refine (F1.out _).mono ?_
      rintro e w2 ⟨rfl, rfl⟩
      go_wp2_with fail
      refine (F2.out _).mono ?_
      rintro e w2 ⟨rfl, rfl⟩
      go_wp2_with fail
      refine (F3.out _).mono ?_
      rintro e w2 ⟨rfl, rfl⟩
      go_wp2_with fail
      refine (F4.out _).mono ?_
      rintro e w2 ⟨rfl, rfl⟩
      go_wp2_with fail
      refine (awake_any _ (HL.out.keep HB4.out)).mono ?_
      rintro e w3 ⟨rfl, hb⟩
      have HB5 := Lib.hid (bel_trans HB4.out hb)
      clear hb
      go_wp2_with fail
      go_ret
      exact ⟨rfl, HB5.out⟩
    case pos =>
      go_wp2_with fail
      refine (K1.out _).mono ?_
      rintro e w2 ⟨oa, ca, rfl, hx, hb⟩
      go_wp2_with fail
      obtain ⟨W2, hW2⟩ : ∃ W2, w2.alloc (.cells #[.int .i64 F, .slice oa c ca, .int .i64 G, .bool W] 46) = W2 := ⟨_, rfl⟩
      have hx2 : W2.heap[w2.heap.size]? = some (.cells #[.int .i64 F, .slice oa c ca, .int .i64 G, .bool W] 46) := by rw [← hW2]; exact heap_alloc_new _ _
      have hb2 : Below wr.heap.size wr W2 := by rw [← hW2]; exact hb.alloc hb.size _
      have hx1 : W2.ownsRow wr.heap.size 60 3 (.slice oa c ca) c X := by rw [← hW2]; exact ownsRow_below hx ((Below.refl _ _).alloc (Nat.le_refl _) _)
      have hne : ∀ g, oa = some ⟨g, 0, none⟩ → w2.heap.size ≠ g := by
        rintro g rfl e
        have := (hx.lt g rfl).2
        omega
      have hbw : Below W1.heap.size W1 W2 := HB3.out.trans (hb2.mono HB3.out.size)
      have HR := Lib.hid (show scR W1 gw w2.heap.size F G oa ob c ca cb W W2.drew from ⟨bel_drew hbw, (hbw.block _ hgl).trans HBK.out, hx2⟩)
      have HX1 := Lib.hid (show W2.drew.ownsRow wr.heap.size 60 3 (.slice oa c ca) c X from hx1)
      have HNE := Lib.hid hne
      have HBS := Lib.hid HB3.out.size
      rw [hW2]
      clear hx hb hW2 hx1 hx2 hb2 hne hbw
      generalize w2.heap.size = gx at *
      generalize wr.heap.size = BX at *
      go_region_held3 (fun w' => (w'.cell? ⟨gw, 0, none⟩ = some (.int .i64 F) ∧ w'.cell? ⟨gw, 1, none⟩ = some (.slice ob c cb) ∧ w'.cell? ⟨gw, 2, none⟩ = some (.int .i64 G) ∧ w'.cell? ⟨gw, 3, none⟩ = some (.bool W)) ∧
          (w'.cell? ⟨gx, 0, none⟩ = some (.int .i64 F) ∧ w'.cell? ⟨gx, 1, none⟩ = some (.slice oa c ca) ∧ w'.cell? ⟨gx, 2, none⟩ = some (.int .i64 G) ∧ w'.cell? ⟨gx, 3, none⟩ = some (.bool W)) ∧ scR W1 gw gx F G oa ob c ca cb W w')
        (first | exact scS_of (scR_is (scR_keep HR.out hbN) hgl HNE.out hI1 hI2) | exact scS_of (scR_keep HR.out hbN) | exact scS_of HR.out | assumption)
        (first
          | (go_at_call 27; (with_reducible refine (next_is F oa c ca G W _ HF.out (by omega)).mono ?_); rintro e' w3 ⟨rfl, hbN⟩)
          | (go_at_call 28; (with_reducible refine (is_any F G W c oa ob ca cb X W1 _ _ _ HX.out hc (ownsRow_below HX1.out hbN) HBS.out HY1.out (scR_one (scR_keep HR.out hbN))).mono ?_); rintro e' w4 ⟨rfl, hI1, hI2⟩))
      have HI1 := Lib.hid hI1
      clear hI1 hI2 hbN HR HX1 HNE HBS HB3
      go_wp2_with fail
      go_roundw
      case rel => exact ⟨r + 1, by omega, by go_num, HI1.out⟩
      case measure => simp [intOf]; omega
theorem i64_in3' {c : Int} (h : (Lit.int .i64 c).wf = true) : -9223372036854775808 ≤ c ∧ c ≤ 9223372036854775807 := by
  simp [Lit.wf, IntKind.min, IntKind.max, IntKind.signed, IntKind.bits] at h
  omega
theorem scans_law (s : ByteArray) (size n most : Int) (w : World) (hs : (Lit.int .i64 size).wf = true) (hm : (Lit.int .i64 most).wf = true) (h : Laid w) :
    Calls Tryz.prog 5 #[.string s, .int .i64 size, .int .i64 n, .int .i64 most] w fun r w' => r = .returned (.bool true) ∧ Below w.heap.size w w' :=
  scans_any s size n most (i64_in3' hs) (i64_in3' hm) w h
end Go.Proofs.YtaonjbkkgeiniaaGreatDoor
