/- seg.Split. -/
import Derived.Test.YtaonjbkkgeiniaaGreatDoorSgC
namespace Go.Proofs.YtaonjbkkgeiniaaGreatDoor
open Go.RowKit Go.Shelf

/-- Split's error; what it tells -/
def spE (f : Int) (z : List ByteArray) (most : Int) : Nat := if (f < 0 ∨ 1048576 < f) ∨ most < 64 ∨ 65536 < most then 1 else wrE f z
def spO (f : Int) (z : List ByteArray) (most : Int) : List ByteArray := if spE f z most = 0 then spB most.toNat f.toNat z else []
theorem wr_ok {f : Int} {z : List ByteArray} (h : wrE f z = 0) : (∀ p ∈ z, payOk p.data.toList) ∧ f + z.length ≤ 1048576 := by
  unfold wrE at h
  by_cases h1 : ∃ p ∈ z, ¬ payOk p.data.toList
  · rw [if_pos h1] at h; cases h
  rw [if_neg h1] at h
  refine ⟨fun p hp => Decidable.byContradiction fun hn => h1 ⟨p, hp, hn⟩, ?_⟩
  by_cases h2 : 1048576 < f + z.length
  · rw [if_pos h2] at h; cases h
  · omega
set_option maxRecDepth 20000 in
set_option maxHeartbeats 2000000 in
theorem collect_any (f len cap most : Nat) (oa : Option Addr) (z : List ByteArray) (hm : 64 ≤ most ∧ most ≤ 65536) (b c : Nat) (w : World)
    (hb0 : w.heap[b]? = some (.cells #[.int .i64 f] 2)) (hb1 : w.heap[b + 1]? = some (.cells #[.slice oa len cap] 23)) (hb2 : w.heap[b + 2]? = some (.cells #[.func (.func 49) #[] #[.pointer (some ⟨c, 0, none⟩)]] 82)) (hc : w.heap[c]? = some (.cells #[.int .i64 most] 3))
    (hz : StrsIn w oa len cap z) (hf : f + len ≤ 1048576) (hp : ∀ p ∈ z, payOk p.data.toList) :
    Calls Tryz.prog 50 #[.func (.func 77) #[] #[.pointer (some ⟨b, 0, none⟩), .pointer (some ⟨b + 1, 0, none⟩), .pointer (some ⟨b + 2, 0, none⟩)]] w
      fun e w' => ∃ oa' cap', e = .returned (.slice oa' (spB most f z).length cap') ∧ w'.ownsRow w.heap.size 9 1 (.slice oa' (spB most f z).length cap') (spB most f z).length (stRow (spB most f z)) ∧ Below w.heap.size w w' := by
  have hl : (spB most f z).length ≤ 2000000 := by
    have := (spL_len most f (paysL z)).2
    rw [pays_len] at this
    have := hz.1
    unfold spB
    rw [List.length_map]
    omega
  have H := Lib.hid ((callsIn_wide (n := 3)).1 (appseq_in f len cap most oa z hm b c w hb0 hb1 hb2 hc hz hf hp hl))
  generalize spB most f z = X at *
  clear hb0 hb1 hb2 hc hz hf hp hl
  go_enter Tryz.func50, Tryz.ntmps50
  go_wp2_with fail
  refine H.out.mono ?_
  rintro e w' ⟨oa', cap', rfl, ho, hb⟩
  have HO := Lib.hid ho
  have HB := Lib.hid hb
  clear ho hb
  go_wp2_with fail
  go_ret
  exact ⟨oa', cap', rfl, HO.out, HB.out⟩
/-- Split's post -/
def spPost (f : Int) (z : List ByteArray) (most : Int) (w : World) (e : Ending) (w' : World) : Prop :=
  ∃ oa' cap', e = .returned (.tuple #[.slice oa' (spO f z most).length cap', .int .i64 (spE f z most)]) ∧ w'.ownsRow w.heap.size 9 1 (.slice oa' (spO f z most).length cap') (spO f z most).length (stRow (spO f z most)) ∧ Below w.heap.size w w'
theorem spPost_bad {f : Int} {z : List ByteArray} {most : Int} {w w' : World} (n : Nat) (h : spE f z most = n) (hn : n ≠ 0) (hb : Below w.heap.size w w') : spPost f z most w (.returned (.tuple #[.slice none 0 0, .int .i64 (n : Int)])) w' := by
  have ho : spO f z most = [] := by unfold spO; rw [if_neg (by omega)]
  refine ⟨none, 0, ?_, ?_, hb⟩
  · rw [ho, h]; rfl
  · rw [ho]; exact World.ownsRow_nil _ _ _ _
set_option maxRecDepth 20000 in
set_option maxHeartbeats 4000000 in
theorem split_any {len cap : Nat} {oa : Option Addr} (f most : Int) (z : List ByteArray) (w : World) (h : StrsIn w oa len cap z) (hm : -9223372036854775808 ≤ most ∧ most ≤ 9223372036854775807) :
    Calls Tryz.prog 17 #[.int .i64 f, .slice oa len cap, .int .i64 most] w (spPost f z most w) := by
  have hb0 : Below w.heap.size w (w.alloc (.cells #[.int .i64 most] 3)) := (Below.refl _ _).alloc (Nat.le_refl _) _
  by_cases hf : 0 ≤ f ∧ f ≤ 1048576
  case neg =>
    have d0 : decide (0 ≤ f ∧ f ≤ 1048576) = false := decide_eq_false hf
    have HP := Lib.hid (fun (w' : World) (hb : Below w.heap.size w w') => spPost_bad (f := f) (z := z) (most := most) 1 (by unfold spE; rw [if_pos (.inl (by omega))]) (by omega) hb)
    have HB := Lib.hid hb0
    clear hf h hb0
    go_enter Tryz.func17, Tryz.ntmps17
    go_wp2_with fail
    refine (number_any' f _).mono ?_
    rintro e' w1 ⟨rfl, rfl⟩
    go_wp2_with fail
    go_ret2
    exact HP.out _ HB.out
  have d0 : decide (0 ≤ f ∧ f ≤ 1048576) = true := decide_eq_true hf
  by_cases h1 : most < 64
  · have d1 : decide (most < 64) = true := decide_eq_true h1
    have HP := Lib.hid (fun (w' : World) (hb : Below w.heap.size w w') => spPost_bad (f := f) (z := z) (most := most) 1 (by unfold spE; rw [if_pos (.inr (.inl h1))]) (by omega) hb)
    have HB := Lib.hid hb0
    clear hf h hb0 h1
    go_enter Tryz.func17, Tryz.ntmps17
    go_wp2_with fail
    refine (number_any' f _).mono ?_
    rintro e' w1 ⟨rfl, rfl⟩
    go_wp2_with fail
    go_ret2
    exact HP.out _ HB.out
  have d1 : decide (most < 64) = false := decide_eq_false h1
  by_cases h2 : 65536 < most
  · have d2 : decide ((65536 : Int) < most) = true := decide_eq_true h2
    have HP := Lib.hid (fun (w' : World) (hb : Below w.heap.size w w') => spPost_bad (f := f) (z := z) (most := most) 1 (by unfold spE; rw [if_pos (.inr (.inr h2))]) (by omega) hb)
    have HB := Lib.hid hb0
    clear hf h hb0 h1 h2
    go_enter Tryz.func17, Tryz.ntmps17
    go_wp2_with fail
    refine (number_any' f _).mono ?_
    rintro e' w1 ⟨rfl, rfl⟩
    go_wp2_with fail
    go_ret2
    exact HP.out _ HB.out
  have d2 : decide ((65536 : Int) < most) = false := decide_eq_false h2
  have hE : spE f z most = wrE f z := by unfold spE; rw [if_neg (by omega)]
  have HWR := Lib.hid (wrong_any (cap := cap) f z (w.alloc (.cells #[.int .i64 most] 3)) (strs_keep h hb0) hf.1 hf.2)
  by_cases he : wrE f z = 0
  case neg =>
    obtain ⟨n, hn⟩ : ∃ n, wrE f z = n := ⟨_, rfl⟩
    rw [hn] at HWR he hE
    have d3 : ((n : Int) != 0) = true := by rw [bne_iff_ne]; omega
    have HP := Lib.hid (fun (w' : World) (hb : Below w.heap.size w w') => spPost_bad (f := f) (z := z) (most := most) n hE he hb)
    have HB := Lib.hid hb0
    clear hf h hb0 h1 h2 hE hn he
    go_enter Tryz.func17, Tryz.ntmps17
    go_wp2_with fail
    refine (number_any' f _).mono ?_
    rintro e' w1 ⟨rfl, rfl⟩
    go_wp2_with fail
    refine HWR.out.mono ?_
    rintro e' w1 ⟨rfl, rfl⟩
    go_wp2_with fail
    go_ret2
    exact HP.out _ HB.out
  rw [he] at HWR hE
  obtain ⟨hp, hfl⟩ := wr_ok he
  rw [h.1] at hfl
  obtain ⟨g, rfl⟩ : ∃ g : Nat, f = g := ⟨f.toNat, by omega⟩
  obtain ⟨m, rfl⟩ : ∃ m : Nat, most = m := ⟨most.toNat, by omega⟩
  have hO : spO g z m = spB m g z := by unfold spO; rw [if_pos hE]; rfl
  have HP := Lib.hid (fun (oa' : Option Addr) (cap' : Nat) (w' : World) (ho : w'.ownsRow (w.heap.size + 4) 9 1 (.slice oa' (spB m g z).length cap') (spB m g z).length (stRow (spB m g z))) (hb : Below w.heap.size w w') =>
    (show spPost g z m w (.returned (.tuple #[.slice oa' (spB m g z).length cap', .int .i64 0])) w' from ⟨oa', cap', by rw [hO, hE]; rfl, by rw [hO]; exact ownsRow_mono ho, hb⟩))
  obtain ⟨W0, eW⟩ : ∃ W0, (((w.alloc (.cells #[.int .i64 m] 3)).alloc (.cells #[.int .i64 g] 2)).alloc (.cells #[.slice oa len cap] 23)).alloc (.cells #[.func (.func 49) #[] #[.pointer (some ⟨w.heap.size, 0, none⟩)]] 82) = W0 := ⟨_, rfl⟩
  have hBW : Below w.heap.size w W0 := by rw [← eW]; exact ((((Below.refl _ _).alloc (Nat.le_refl _) _).alloc (by simp) _).alloc (by simp; omega) _).alloc (by simp; omega) _
  have hz0 : W0.heap.size = w.heap.size + 4 := by rw [← eW]; simp
  have r3 : W0.heap[w.heap.size + 3]? = some (.cells #[.func (.func 49) #[] #[.pointer (some ⟨w.heap.size, 0, none⟩)]] 82) := by
    rw [← eW]
    have := World.alloc_heap_new (((w.alloc (.cells #[.int .i64 m] 3)).alloc (.cells #[.int .i64 g] 2)).alloc (.cells #[.slice oa len cap] 23)) (.cells #[.func (.func 49) #[] #[.pointer (some ⟨w.heap.size, 0, none⟩)]] 82)
    simpa using this
  have r2 : W0.heap[w.heap.size + 2]? = some (.cells #[.slice oa len cap] 23) := by
    rw [← eW]
    refine (Below.heap_alloc _ _ _ (by simp)).trans ?_
    have := World.alloc_heap_new ((w.alloc (.cells #[.int .i64 m] 3)).alloc (.cells #[.int .i64 g] 2)) (.cells #[.slice oa len cap] 23)
    simpa using this
  have r1 : W0.heap[w.heap.size + 1]? = some (.cells #[.int .i64 g] 2) := by
    rw [← eW]
    refine (Below.heap_alloc _ _ _ (by simp)).trans ((Below.heap_alloc _ _ _ (by simp)).trans ?_)
    have := World.alloc_heap_new (w.alloc (.cells #[.int .i64 m] 3)) (.cells #[.int .i64 g] 2)
    simpa using this
  have r0 : W0.heap[w.heap.size]? = some (.cells #[.int .i64 m] 3) := by
    rw [← eW]
    exact (Below.heap_alloc _ _ _ (by simp; omega)).trans ((Below.heap_alloc _ _ _ (by simp; omega)).trans ((Below.heap_alloc _ _ _ (by simp)).trans (World.alloc_heap_new _ _)))
  have hcol := collect_any g len cap m oa z (by omega) (w.heap.size + 1) w.heap.size W0 r1 r2 r3 r0 (strs_keep h hBW) (by omega) hp
  rw [hz0] at hcol
  have HC := Lib.hid hcol
  have HBW := Lib.hid hBW
  have EW := Lib.hid eW
  clear hcol hBW eW r0 r1 r2 r3 hz0 h hb0 h1 h2 hE he hp hfl hO hm
  have d3 : decide ((g : Int) ≤ 1048576) = true := decide_eq_true (by omega)
  clear hf
  generalize spB m g z = X at *
  go_enter Tryz.func17, Tryz.ntmps17
  go_wp2_with fail
  refine (number_any' g _).mono ?_
  rintro e' w1 ⟨rfl, rfl⟩
  go_wp2_with fail
  refine HWR.out.mono ?_
  rintro e' w1 ⟨rfl, rfl⟩
  go_wp2_with fail
  refine (segments_fn g oa len cap 49 #[.pointer (some ⟨w.heap.size, 0, none⟩)] _).mono ?_
  rintro e' w1 ⟨rfl, rfl⟩
  go_wp2_with fail
  rw [EW.out]
  refine HC.out.mono ?_
  rintro e' w1 ⟨oa', cap', rfl, ho, hb⟩
  have HO := Lib.hid ho
  have HB := Lib.hid (HBW.out.trans (hb.mono (by omega)))
  clear ho hb
  go_wp2_with fail
  go_ret2
  exact HP.out _ _ _ HO.out HB.out
end Go.Proofs.YtaonjbkkgeiniaaGreatDoor
