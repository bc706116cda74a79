/- souklaw11.many, texts, payloads. -/
import Derived.Test.YtaonjbkkgeiniaaGreatDoorSgIs
import Derived.Test.YtaonjbkkgeiniaaGreatDoorSgW0
import Derived.OwnWalk
namespace Go.Proofs.YtaonjbkkgeiniaaGreatDoor
open Go.RowKit

def sumZ : List ByteArray → Nat
  | [] => 0
  | s :: z => s.size + 1 + sumZ z
theorem sumZ_snoc (z : List ByteArray) (s : ByteArray) : sumZ (z ++ [s]) = sumZ z + (s.size + 1) := by
  induction z with
  | nil => simp [sumZ]
  | cons a z ih => simp only [List.cons_append, sumZ, ih]; omega
theorem sumZ_take {z : List ByteArray} {i : Nat} {s : ByteArray} (hi : i < z.length) (hs : z.getD i ByteArray.empty = s) : sumZ (z.take (i + 1)) = sumZ (z.take i) + (s.size + 1) := by
  rw [List.getD_eq_getElem?_getD, List.getElem?_eq_getElem hi] at hs
  rw [List.take_succ_eq_append_getElem hi, sumZ_snoc]
  rw [← hs]; rfl
theorem sumZ_len (z : List ByteArray) : z.length ≤ sumZ z := by
  induction z with
  | nil => exact Nat.le_refl _
  | cons a z ih => simp only [List.length_cons, sumZ]; omega
theorem sumZ_mem {z : List ByteArray} {s : ByteArray} (h : s ∈ z) : s.size ≤ sumZ z := by
  induction z with
  | nil => cases h
  | cons a z ih =>
    simp only [sumZ]
    rcases List.mem_cons.1 h with rfl | h
    · omega
    · have := ih h; omega

set_option maxHeartbeats 1000000 in
theorem many_any (oa : Option Addr) (len cap : Nat) (z : List ByteArray) (w : World) (h : StrsIn w oa len cap z) :
    Calls Tryz.prog 30 #[.slice oa len cap] w fun e w' => ∃ b, e = .returned (.bool b) ∧ w = w' ∧ (b = false → sumZ z ≤ 20000) := by
  have H := Lib.hid h
  have hlen : len ≤ 8796093021952 := h.2.2.1
  clear h
  go_enter Tryz.func30, Tryz.ntmps30
  go_wp2_with fail
  go_loopw [3, 4] (fun nv iv wr => ∃ m i : Nat, i ≤ len ∧ nv = .int .i64 m ∧ iv = .int .i64 i ∧ m ≤ 60000 ∧ (m ≤ 20000 → m = sumZ (z.take i)) ∧ wr = w) (fun _ iv _ => len - (intOf iv).toNat)
  case atStart => exact ⟨0, 0, by omega, rfl, rfl, by omega, fun _ => rfl, rfl⟩
  case round =>
    obtain ⟨m, i, hi, rfl, rfl, hm, hs, rfl⟩ := hrel
    have HS := Lib.hid hs
    clear hs
    by_cases hin : i < len
    · have hd1 : decide ((i : Int) < (len : Int)) = true := decide_eq_true (by omega)
      by_cases hm2 : m ≤ 20000
      · have hd2 : decide ((m : Int) ≤ 20000) = true := decide_eq_true (by omega)
        rcases H.out.2.2.2.2 with hz | ⟨b, off, rfl, hb, hc⟩
        · omega
        obtain ⟨s, es⟩ : ∃ s, z.getD i ByteArray.empty = s := ⟨_, rfl⟩
        have c0 := hc i hin
        rw [es] at c0
        have hss : s.size ≤ 140737488351232 := by
          refine H.out.2.2.2.1 s ?_
          rw [← es, List.getD_eq_getElem?_getD, List.getElem?_eq_getElem (by rw [H.out.1]; exact hin)]
          exact List.getElem_mem _
        have ht := sumZ_take (by rw [H.out.1]; exact hin) es
        clear hc es
        by_cases h3 : s.size ≤ 20001
        · have hmn : min (s.size : Int) 20001 = (s.size : Int) := by omega
          have HT := Lib.hid ht
          have HH3 := Lib.hid h3
          clear ht h3
          go_wp2_with fail
          go_roundw
          case rel =>
            refine ⟨m + 1 + s.size, i + 1, by omega, by go_num, by go_num, by have := HH3.out; omega, fun _ => ?_, trivial⟩
            rw [HT.out, ← HS.out hm2]; omega
          case measure => simp [intOf]; omega
        · have hmn : min (s.size : Int) 20001 = 20001 := by omega
          clear ht h3
          go_wp2_with fail
          go_roundw
          case rel => exact ⟨m + 1 + 20001, i + 1, by omega, by go_num, by go_num, by omega, fun h => by omega, trivial⟩
          case measure => simp [intOf]; omega
      · have hd2 : decide ((m : Int) ≤ 20000) = false := decide_eq_false (by omega)
        have hd3 : decide ((20000 : Int) < (m : Int)) = true := decide_eq_true (by omega)
        clear hm2
        go_wp2_with fail
        go_ret
        exact ⟨true, rfl, rfl, fun h => by cases h⟩
    · obtain rfl : i = len := by omega
      have HZ := Lib.hid (show z.take i = z by rw [← H.out.1]; exact List.take_length)
      by_cases hm2 : m ≤ 20000
      · have hd3 : decide ((20000 : Int) < (m : Int)) = false := decide_eq_false (by omega)
        have HM2 := Lib.hid hm2
        clear hm2
        go_wp2_with fail
        go_ret
        refine ⟨false, rfl, rfl, fun _ => ?_⟩
        have := HS.out HM2.out
        rw [HZ.out] at this
        have := HM2.out
        omega
      · have hd3 : decide ((20000 : Int) < (m : Int)) = true := decide_eq_true (by omega)
        clear hm2
        go_wp2_with fail
        go_ret
        exact ⟨true, rfl, rfl, fun h => by cases h⟩

set_option maxHeartbeats 1000000 in
theorem payloads_any (n : Nat) (oa : Option Addr) (ca : Nat) (X : List Value) (zs : List ByteArray) (w : World) (B : Nat) (hn : n ≤ 1000000) (hz : zs.length = n)
    (hX : ∀ i, i < n → X[i * 3 + 1]? = some (.string (zs.getD i ByteArray.empty))) (hx : w.ownsRow B 60 3 (.slice oa n ca) n X) :
    Calls Tryz.prog 34 #[.slice oa n ca] w fun e w' => ∃ v, e = .returned v ∧ w'.ownsRow w.heap.size 9 1 v n (stRow zs) ∧ Below w.heap.size w w' := by
  have HX := Lib.hid hX
  have HR := Lib.hid hx
  have HZ := Lib.hid hz
  clear hX hx hz
  obtain ⟨i0, hi, hz0, hz1, hz2⟩ := info_parts infoS
  have HI := Lib.hid (⟨hi, hz0, hz1, hz2⟩ : Tryz.prog.info? 9 = some i0 ∧ i0.zero = some (Value.string ⟨#[]⟩) ∧ i0.size = 1 ∧ i0.bytes = 16)
  clear hi hz0 hz1 hz2
  go_enter Tryz.func34, Tryz.ntmps34
  go_wp2_with fail
  go_loopw [3, 4] (fun vv iv wr => ∃ k : Nat, k ≤ n ∧ iv = .int .i64 k ∧ wr.ownsRow w.heap.size 9 1 vv k (stRow (zs.take k)) ∧ Below w.heap.size w wr) (fun _ iv _ => n - (intOf iv).toNat)
  case atStart => exact ⟨0, by omega, rfl, World.ownsRow_nil _ _ _ _, Below.refl _ _⟩
  case round =>
    obtain ⟨k, hk, rfl, ho, hb⟩ := hrel
    have HO := Lib.hid ho
    have HB := Lib.hid hb
    clear ho hb
    by_cases hin : k < n
    · have d1 : decide ((k : Int) < (n : Int)) = true := decide_eq_true (by omega)
      obtain ⟨g, rfl, hg, hrc⟩ := rrow_cells HR.out (by omega)
      have p1 := (HB.out.cell (p := ⟨g, k * 3 + 1, none⟩) hg).trans (hrc _ _ (HX.out k hin))
      obtain ⟨s, es⟩ : ∃ s, zs.getD k ByteArray.empty = s := ⟨_, rfl⟩
      rw [es] at p1
      have hrow : stRow (zs.take k) ++ [.string s] = stRow (zs.take (k + 1)) := by
        rw [List.getD_eq_getElem?_getD, List.getElem?_eq_getElem (by rw [HZ.out]; exact hin)] at es
        unfold stRow
        rw [List.take_succ_eq_append_getElem (by rw [HZ.out]; exact hin), List.map_append, ← es]
        rfl
      have HROW := Lib.hid hrow
      clear hrc es hrow
      go_wp2_with (at_builtin; refine wpList_append_own _ rfl _ _ 23 rfl w.heap.size 9 i0 (.string ⟨#[]⟩) 1 16 Tryz.underlying23 HI.out.1 HI.out.2.1 HI.out.2.2.1 HI.out.2.2.2 rfl (by decide) _ _ _ rfl (HO.out.alloc _) ⟨wr.heap.size, 0, none⟩ 1 1 [.string s] rfl rfl (cell_one_new _ _ _) (by simp [Value.oneCell']) (by unfold maxLen; omega) (by omega) (by have := HB.out.size; simp; omega) ?_)
      intro v' w7 hown hgrow _
      rw [HROW.out] at hown
      have hb7 : Below w.heap.size w w7 := (HB.out.alloc HB.out.size _).grown hgrow (by have := HB.out.size; simp; omega) (fun j hj => (HO.out.lt j hj).1)
      have HO7 := Lib.hid hown
      have HB7 := Lib.hid hb7
      clear hown hgrow hb7
      go_wp2_with fail
      go_roundw
      case rel => exact ⟨k + 1, by omega, by go_num, HO7.out, HB7.out⟩
      case measure => simp [intOf]; omega
    · obtain rfl : k = n := by omega
      have HO8 := Lib.hid (show wr.ownsRow w.heap.size 9 1 u3 k (stRow zs) by have := HO.out; rwa [show zs.take k = zs by rw [← HZ.out]; exact List.take_length] at this)
      clear HO
      go_wp2_with fail
      go_ret
      exact ⟨_, rfl, HO8.out, HB.out⟩

/-- the texts, from i on as they were -/
def unst (B S : Nat) (wr : World) (oa : Option Addr) (n : Nat) (z : List ByteArray) (i : Nat) : Prop :=
  n = 0 ∨ ∃ g arr, oa = some ⟨g, 0, none⟩ ∧ B ≤ g ∧ g < S ∧ wr.heap[g]? = some (.cells arr 9) ∧ ∀ j, i ≤ j → j < n → arr[j]? = some (.string (z.getD j ByteArray.empty))
theorem unst_of {w : World} {B B' n cap : Nat} {oa : Option Addr} {z : List ByteArray} (h : w.ownsRow B' 9 1 (.slice oa n cap) n (stRow z)) (hB : B ≤ B') : unst B w.heap.size w oa n z 0 := by
  rcases h.2 with ⟨_, h0⟩ | ⟨g, c, cur, hv, hg, hc, hn, _, hs, ht⟩
  · exact .inl h0
  · obtain ⟨rfl, _, _⟩ := Value.slice.inj hv
    have hl := h.1
    rw [stRow_len, Nat.mul_one] at hl
    refine .inr ⟨g, cur, rfl, by omega, (Array.getElem?_eq_some_iff.1 hc).1, hc, fun j _ hj => ?_⟩
    have h9 : (stRow z)[j]? = some (.string (z.getD j ByteArray.empty)) := by
      unfold stRow
      rw [List.getElem?_map, List.getElem?_eq_getElem (by omega), List.getD_eq_getElem?_getD, List.getElem?_eq_getElem (by omega)]
      rfl
    rw [← ht, List.getElem?_take, if_pos (by omega), Array.getElem?_toList] at h9
    exact h9
set_option maxRecDepth 100000 in
set_option maxHeartbeats 2000000 in
theorem texts_any (n : Nat) (oa ob : Option Addr) (ca cb : Nat) (z : List ByteArray) (w1 w : World) (B1 : Nat)
    (hx : w.ownsRow B1 9 1 (.slice oa n ca) n (stRow z)) (hB : w1.heap.size ≤ B1) (hy : StrsIn w1 ob n cb z) (hb : Below w1.heap.size w1 w) :
    Calls Tryz.prog 33 #[.slice oa n ca, .slice ob n cb] w fun e w' => e = .returned (.bool true) ∧ Below w1.heap.size w1 w' ∧ ∀ k, k < w.heap.size → (∀ g, oa = some ⟨g, 0, none⟩ → k ≠ g) → w'.heap[k]? = w.heap[k]? := by
  have HU := Lib.hid (unst_of hx hB)
  have HY := Lib.hid hy
  have HB := Lib.hid hb
  have hn := hy.2.2.1
  clear hx hy hb
  go_enter Tryz.func33, Tryz.ntmps33
  go_wp2_with fail
  go_loopw [5] (fun iv wr => ∃ i : Nat, i ≤ n ∧ iv = .int .i64 i ∧ Below w1.heap.size w1 wr ∧ unst w1.heap.size w.heap.size wr oa n z i ∧ ∀ k, k < w.heap.size → (∀ g, oa = some ⟨g, 0, none⟩ → k ≠ g) → wr.heap[k]? = w.heap[k]?) (fun iv _ => n - (intOf iv).toNat)
  case atStart => exact ⟨0, Nat.zero_le _, rfl, HB.out, HU.out, fun _ _ _ => rfl⟩
  case round =>
    obtain ⟨i, hi, rfl, hbl, hu, hk⟩ := hrel
    have HK := Lib.hid hk
    clear hk
    by_cases hin : i < n
    case neg =>
      obtain rfl : i = n := by omega
      have HBL := Lib.hid hbl
      clear hbl hu hin
      go_wp2_with fail
      go_ret
      exact ⟨rfl, HBL.out, HK.out⟩
    rcases hu with hu | ⟨g, arr, rfl, hg1, hg2, hga, hgx⟩
    · omega
    rcases HY.out.2.2.2.2 with hz | ⟨b, off, rfl, hbl1, hc⟩
    · omega
    obtain ⟨s, es⟩ : ∃ s, z.getD i ByteArray.empty = s := ⟨_, rfl⟩
    have p0 : wr.cell? ⟨g, i, none⟩ = some (.string s) := by rw [cell_of_row _ _ _ _ _ _ hga, hgx _ (by omega) (by omega), es]
    have q0 := (hbl.cell (p := ⟨b, off + i, none⟩) hbl1).trans (hc i hin)
    rw [es] at q0
    have f1 : wr.frozen? ⟨g, i, none⟩ = false := frozen_of_row _ _ _ _ _ hga
    have hd1 : decide ((i : Int) < (n : Int)) = true := decide_eq_true (by omega)
    have HBL := Lib.hid hbl
    have HGA := Lib.hid hga
    have HGX := Lib.hid hgx
    have HIN := Lib.hid hin
    clear hbl hga hgx hin hc es
    go_wp2_with fail
    go_quiet (fail)
    go_wp2_with fail
    go_roundw
    case rel =>
      refine ⟨i + 1, HIN.out, by go_num, (below_drewN HBL.out _).setCell hg1 _, .inr ⟨g, arr.setIfInBounds i (.string ⟨#[115, 112, 111, 105, 108, 116]⟩), rfl, hg1, hg2, ?_, fun j h1 h2 => ?_⟩, fun k h1 h2 => ?_⟩
      · exact heap_setCell_same _ _ _ _ _ _ HGA.out
      · rw [Array.getElem?_setIfInBounds_ne (by omega)]; exact HGX.out j (by omega) h2
      · rw [heap_setCell_ne' _ _ _ (show k ≠ g from h2 g rfl)]; exact HK.out k h1 h2
    case measure => simp [intOf]; omega
end Go.Proofs.YtaonjbkkgeiniaaGreatDoor
