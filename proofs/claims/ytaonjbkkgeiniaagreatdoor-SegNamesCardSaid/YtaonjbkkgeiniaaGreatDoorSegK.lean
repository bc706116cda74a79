/- Walks over package seg: the iterator of segments, where each payload goes into the last one; Join. -/
import Derived.Test.YtaonjbkkgeiniaaGreatDoorSegJ
import Derived.BigQuiet
import Derived.Deep.QuietTactic
import Derived.Test.YtaonjbkkgeiniaaGreatDoorBld
import Derived.Test.YtaonjbkkgeiniaaGreatDoorB0
import Derived.Test.YtaonjbkkgeiniaaGreatDoorOwnB
namespace Go.Proofs.YtaonjbkkgeiniaaGreatDoor
open Go.RowKit Go.Shelf
attribute [local go_sem] Oper.semAt_some

set_option maxHeartbeats 400000 in
theorem join1_any (x y : Int) (w : World) :
    Calls Tryz.prog 47 #[.int .i64 x, .int .i64 y] w fun e w' => e = .returned (.bool true) ∧ w' = w := by
  go_enter Tryz.func47, Tryz.ntmps47
  go_wp2_with fail
  go_ret
  exact ⟨rfl, rfl⟩
set_option maxHeartbeats 400000 in
theorem segments_fn (f : Int) (oa : Option Addr) (n cap : Nat) (gf : Nat) (lb : Array Value) (w : World) :
    Calls Tryz.prog 48 #[.int .i64 f, .slice oa n cap, .func (.func gf) #[] lb] w
      fun e w' => e = .returned (.func (.func 77) #[] #[.pointer (some ⟨w.heap.size, 0, none⟩), .pointer (some ⟨w.heap.size + 1, 0, none⟩), .pointer (some ⟨w.heap.size + 1 + 1, 0, none⟩)]) ∧
        ((w.alloc (.cells #[.int .i64 f] 2)).alloc (.cells #[.slice oa n cap] 23)).alloc (.cells #[.func (.func gf) #[] lb] 82) = w' := by
  go_enter Tryz.func48, Tryz.ntmps48
  go_wp2_with fail
  go_ret
  exact ⟨rfl, rfl⟩

/-- payloads as lists of bytes -/
def paysL (z : List ByteArray) : List (List UInt8) := z.map fun p => p.data.toList
theorem pays_len (z : List ByteArray) : (paysL z).length = z.length := by unfold paysL; simp
theorem pays_get (z : List ByteArray) (k : Nat) (h : k < z.length) (h' : k < (paysL z).length) : (paysL z)[k]'h' = (z.getD k ByteArray.empty).data.toList := by
  have e : (paysL z)[k]? = some (z.getD k ByteArray.empty).data.toList := by
    unfold paysL; rw [List.getElem?_map, List.getD_eq_getElem?_getD, List.getElem?_eq_getElem h]; rfl
  rw [List.getElem?_eq_getElem h'] at e
  exact Option.some.inj e
theorem bytes_cells (l : List UInt8) : (Lib.byteCells l).length = l.length := by unfold Lib.byteCells; simp
theorem bytes_app (l : List UInt8) (t : ByteArray) : Lib.byteCells l ++ Lib.strCells t = Lib.byteCells (l ++ t.data.toList) := by unfold Lib.byteCells Lib.strCells; simp
theorem size_bound (ls : List (List UInt8)) : ∀ f : Int, okF f ls → sizeF ls ≤ 4112 * ls.length := by
  induction ls with
  | nil => intro f _; exact Nat.le_refl _
  | cons l ls ih =>
    intro f h
    have := ih _ h.2
    have := h.1
    show 16 + l.length + sizeF ls ≤ 4112 * (ls.length + 1)
    omega


theorem isb_keep {B b : Nat} {l : List Value} {w w' : World} (h : Lib.IsBuilder 112 5 B b l w) (hb : Below w.heap.size w w') : Lib.IsBuilder 112 5 B b l w' := by
  rcases h with ⟨h1, v, h2, h3, h4⟩ | ⟨h1, v, h2, h3, h4⟩
  · exact .inl ⟨h1, v, (hb.block _ (Array.getElem?_eq_some_iff.1 h2).1).trans h2, ownsRow_below h3 hb, h4⟩
  · exact .inr ⟨h1, v, (hb.block _ (Array.getElem?_eq_some_iff.1 h2).1).trans h2, ownsRow_below h3 hb, h4⟩
/-- one segment's text -/
def segB (f : Nat) (z : List ByteArray) : ByteArray := bs (hdrL f ++ joinF f (paysL z))
def encS (x : ByteArray) : Array Value := #[.string x]

set_option maxRecDepth 100000 in
set_option maxHeartbeats 3200000 in
theorem segs1_in (n : Nat) (f len cap : Nat) (oa : Option Addr) (z : List ByteArray) (l b : Nat) (W : World) (R : World → Prop)
    (hY : ∀ W1, Below W.heap.size W W1 → YieldAt Fence.wide (n - 1) Tryz.prog l (encS (segB f z)) W1 fun e W' => (e = .returned (.bool true) ∨ e = .returned (.bool false)) ∧ R W')
    (hb0 : W.heap[b]? = some (.cells #[.int .i64 f] 2)) (hb1 : W.heap[b + 1]? = some (.cells #[.slice oa len cap] 23)) (hb2 : W.heap[b + 2]? = some (.cells #[.func (.func 47) #[] #[]] 82))
    (hz : StrsIn W oa len cap z) (hf : f + len ≤ 1048576) (hp : ∀ p ∈ z, payOk p.data.toList) :
    CallsIn Fence.wide n Tryz.prog 77 #[.func (.yield l) #[] #[], .pointer (some ⟨b, 0, none⟩), .pointer (some ⟨b + 1, 0, none⟩), .pointer (some ⟨b + 2, 0, none⟩)] W fun e W' => (∃ v, e = .returned v) ∧ R W' := by
  have hlen : z.length = len := hz.1
  have hok : okF f (paysL z) := ok_of _ _ (by omega) (by rw [pays_len, hlen]; omega) (fun l hl => by
    unfold paysL at hl
    obtain ⟨p, hp', rfl⟩ := List.mem_map.1 hl
    exact hp p hp')
  have c0 : W.cell? ⟨b, 0, none⟩ = some (.int .i64 f) := by rw [cell_of_row _ _ _ _ _ _ hb0]; rfl
  have c1 : W.cell? ⟨b + 1, 0, none⟩ = some (.slice oa len cap) := by rw [cell_of_row _ _ _ _ _ _ hb1]; rfl
  have c2 : W.cell? ⟨b + 2, 0, none⟩ = some (.func (.func 47) #[] #[]) := by rw [cell_of_row _ _ _ _ _ _ hb2]; rfl
  have l0 := (Array.getElem?_eq_some_iff.1 hb0).1
  have l1 := (Array.getElem?_eq_some_iff.1 hb1).1
  have l2 := (Array.getElem?_eq_some_iff.1 hb2).1
  have HY := Lib.hid hY
  have HOK := Lib.hid hok
  have HZ := Lib.hid hz
  have HL := Lib.hid hlen
  have C0 := Lib.hid c0
  have C1 := Lib.hid c1
  have C2 := Lib.hid c2
  clear hY hok hz hlen hb0 hb1 hb2 hp
  refine callsIn_of_wp Tryz.func77 rfl trivial ?_
  simp only [Tryz.ntmps77, List.size_toArray, List.length_cons, List.length_nil, Nat.reduceAdd, Nat.reduceSub, Array.replicate_succ, Array.replicate_zero, List.push_toArray, List.append_toArray, List.nil_append, List.cons_append]
  gi_wp2
  refine ⟨trivial, (fun h => by cases h), (callsIn_wide.2 (header_any f _ (by omega))).mono ?_⟩
  rintro e' w1 ⟨rfl, hw1⟩
  have hbk : w1.heap[W.heap.size]? = some (.cells #[.pointer none, .slice none 0 0] 112) := (hw1.block _ (by simp)).trans (heap_alloc_new _ _)
  have hB0 : Lib.IsBuilder 112 5 W.heap.size W.heap.size [] w1 := .inl ⟨Nat.le_refl _, _, hbk, World.ownsRow_nil _ _ _ _, by simp [Value.ownBlock]⟩
  have hbw : Below W.heap.size W w1 := ((Below.refl _ _).alloc (Nat.le_refl _) (.cells #[.pointer none, .slice none 0 0] 112)).trans (hw1.mono (by simp))
  have hW1 := Lib.hid (bWrite W.heap.size W.heap.size [] (bs (hdrL f)) w1 hB0 (by rw [size_bs, hdr_len]; show 0 + 16 ≤ _; omega) (by have := hw1.size; simp at this; omega))
  have HBW := Lib.hid hbw
  clear hw1 hbk hB0 hbw
  gi_wp2
  refine ⟨trivial, (fun h => by cases h), (callsIn_wide.2 hW1.out).mono ?_⟩
  rintro e' w2 ⟨rfl, hb, hbw2⟩
  rw [List.nil_append, show Lib.strCells (bs (hdrL f)) = Lib.byteCells (hdrL f) from rfl] at hb
  have HBL := Lib.hid (show Lib.IsBuilder 112 5 W.heap.size W.heap.size (Lib.byteCells (hdrL f ++ joinF f ((paysL z).take 0))) w2 by rw [List.take_zero, show joinF (f : Int) [] = [] from rfl, List.append_nil]; exact Or.inr hb)
  have HB2 := Lib.hid (HBW.out.trans hbw2)
  have k1 := (HB2.out.cell (p := ⟨b + 1, 0, none⟩) l1).trans C1.out
  clear hW1 hb hbw2 HBW c0 c1 c2
  gi_wp2
  gi_loopw [16] (fun iv wr => ∃ k : Nat, k ≤ len ∧ iv = .int .i64 k ∧ Below W.heap.size W wr ∧ Lib.IsBuilder 112 5 W.heap.size W.heap.size (Lib.byteCells (hdrL f ++ joinF f ((paysL z).take k))) wr) (fun iv _ => len - (intOf iv).toNat)
  case atStart => exact ⟨0, Nat.zero_le _, rfl, HB2.out, HBL.out⟩
  case round =>
    obtain ⟨k, hk, rfl, hbl, hbu⟩ := hrel
    have HB := Lib.hid hbl
    have HU := Lib.hid hbu
    clear hbl hbu HB2 HBL k1
    have hsb : sizeF ((paysL z).take k) ≤ 4312000000 := by
      have h1 := size_bound _ _ (ok_take HOK.out k)
      have h2 : ((paysL z).take k).length ≤ len := by rw [List.length_take, pays_len, HL.out]; omega
      omega
    by_cases hin : k < len
    · have hkl : k < (paysL z).length := by rw [pays_len, HL.out]; exact hin
      have hts := join_take_succ (f : Int) (paysL z) k hkl
      have hkk := (ok_take_succ (f : Int) (paysL z) k hkl).1 (ok_take HOK.out (k + 1))
      have hpg := pays_get z k (by rw [HL.out]; exact hin) hkl
      rw [hpg] at hts hkk
      obtain ⟨p, hp⟩ : ∃ p, z.getD k ByteArray.empty = p := ⟨_, rfl⟩
      rw [hp] at hts hkk
      have hps : p.data.toList.length = p.size := rfl
      obtain ⟨_, _, _, _, hcl⟩ := HZ.out
      rcases hcl with h0 | ⟨bb, off, rfl, hbb, hc⟩
      · omega
      have x0 := (HB.out.cell (p := ⟨bb, off + k, none⟩) hbb).trans (hc k hin)
      rw [hp] at x0
      have y0 := (HB.out.cell (p := ⟨b, 0, none⟩) l0).trans C0.out
      have y2 := (HB.out.cell (p := ⟨b + 2, 0, none⟩) l2).trans C2.out
      have hmk := fun w => make_any ((f : Int) + (k : Int)) p w (by omega)
      have hmE : mkE ((f : Int) + (k : Int)) p = 0 := by unfold mkE; rw [if_neg (by omega), if_neg (by omega), if_neg (by omega)]
      have hmS : mkS ((f : Int) + (k : Int)) p = bs (frm ((f : Int) + (k : Int)).toNat p.data.toList) := by unfold mkS; rw [if_pos hmE]
      rw [hmE, hmS] at hmk
      have hfl := frm_len ((f : Int) + (k : Int)).toNat p.data.toList
      have HTS := Lib.hid hts
      have HMK := Lib.hid hmk
      have HFL := Lib.hid hfl
      have hwr : IntKind.i64.wrap ((f : Int) + (k : Int)) = (f : Int) + (k : Int) := IntWalk.i64_in _ (by omega)
      clear hc hp hts hmk hpg hmE hmS hfl hkl
      generalize frm ((f : Int) + (k : Int)).toNat p.data.toList = fr at *
      gi_wp2
      refine wpIn_wide.2 ?_
      go_quiet ((first | (go_at_call 79; exact Calls.quiet_of_same (Tryz.Builder_Len W.heap.size W.heap.size _ _ HU.out)) | (go_at_call 47; exact Calls.quiet_of_same (join1_any _ _ _))))
      have HSB := Lib.hid hsb
      clear hsb
      gi_wp2
      refine ⟨trivial, (fun h => by cases h), (callsIn_wide.2 (HMK.out _)).mono ?_⟩
      rintro e' w3 ⟨rfl, hb3⟩
      have HU3 := Lib.hid (isb_keep (w := wr.drewN nq) HU.out hb3)
      have HB3 := Lib.hid ((show Below W.heap.size W (wr.drewN nq) from ⟨HB.out.os, HB.out.tape, HB.out.output, HB.out.size, HB.out.block⟩).trans (hb3.mono HB.out.size))
      clear hb3
      gi_wp2
      have hW3 := Lib.hid (bWrite W.heap.size W.heap.size _ (bs fr) _ HU3.out (by rw [bytes_cells, List.length_append, hdr_len, size_bs]; have := join_len ((paysL z).take k) (f : Int); have := HSB.out; have := HFL.out; omega) HB3.out.size)
      refine ⟨trivial, (fun h => by cases h), (callsIn_wide.2 hW3.out).mono ?_⟩
      rintro e' w4 ⟨rfl, hb4, hbw4⟩
      rw [show Lib.strCells (bs fr) = Lib.strCells ⟨fr.toArray⟩ from rfl, bytes_app, List.append_assoc, show (⟨fr.toArray⟩ : ByteArray).data.toList = fr from rfl, ← HTS.out] at hb4
      have HB4 := Lib.hid (HB3.out.trans hbw4)
      have HU4 := Lib.hid hb4
      clear hW3 hb4 hbw4
      gi_wp2
      refine ⟨⟨k + 1, by omega, rfl, HB4.out, Or.inr HU4.out⟩, ?_⟩
      simp [intOf]; omega
    · obtain rfl : k = len := by omega
      have hall : (paysL z).take k = paysL z := List.take_of_length_le (by rw [pays_len, HL.out]; exact Nat.le_refl _)
      have HU5 := Lib.hid (show Lib.IsBuilder 112 5 W.heap.size W.heap.size (Lib.byteCells (hdrL f ++ joinF (f : Int) (paysL z))) wr by rw [← hall]; exact HU.out)
      clear hall hsb
      gi_wp2
      refine ⟨trivial, (fun h => by cases h), (callsIn_wide.2 (Tryz.Builder_String_any W.heap.size W.heap.size _ wr HU5.out HB.out.size)).mono ?_⟩
      rintro e' w3 ⟨rfl, hb3⟩
      obtain ⟨fn, tmps, assign, body, hy, hR⟩ := HY.out _ (HB.out.trans hb3)
      unfold encS segB bs at hy
      clear hb3
      gi_wp2
      refine ⟨(fun h => by cases h), hR.mono ?_⟩
      rintro e' W3 ⟨he | he, hr3⟩
      · subst he
        have HR3 := Lib.hid hr3
        clear hR hy hr3
        gi_wp2
        go_end0
        exact ⟨⟨_, rfl⟩, HR3.out⟩
      · subst he
        have HR3 := Lib.hid hr3
        clear hR hy hr3
        gi_wp2
        go_end0
        exact ⟨⟨_, rfl⟩, HR3.out⟩

end Go.Proofs.YtaonjbkkgeiniaaGreatDoor
