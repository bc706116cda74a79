/- What Split gives, told in letters. -/
import Derived.Test.YtaonjbkkgeiniaaGreatDoorSgGr
import Derived.Test.YtaonjbkkgeiniaaGreatDoorSgTo
import Derived.Test.YtaonjbkkgeiniaaGreatDoorSgP
namespace Go.Proofs.YtaonjbkkgeiniaaGreatDoor
open Go.RowKit

theorem sp_parts {f most : Int} {z : List ByteArray} (h : spE f z most = 0) : (0 ≤ f ∧ f ≤ 1048576) ∧ (64 ≤ most ∧ most ≤ 65536) ∧ (∀ p ∈ z, payOk p.data.toList) ∧ f + z.length ≤ 1048576 := by
  unfold spE at h
  by_cases h1 : (f < 0 ∨ 1048576 < f) ∨ most < 64 ∨ 65536 < most
  · rw [if_pos h1] at h; cases h
  rw [if_neg h1] at h
  obtain ⟨h2, h3⟩ := wr_ok h
  exact ⟨by omega, by omega, h2, h3⟩
/-- group i's payloads; those ahead of it; segment i -/
def gB (gs : List (List (List UInt8))) (i : Nat) : List ByteArray := (gs.getD i []).map bs
def allB (gs : List (List (List UInt8))) (i : Nat) : List ByteArray := ((gs.take i).flatten).map bs
theorem allB_succ (gs : List (List (List UInt8))) (i : Nat) (h : i < gs.length) : allB gs (i + 1) = allB gs i ++ gB gs i := by
  unfold allB gB
  rw [List.take_succ_eq_append_getElem h, List.flatten_append, List.map_append, List.getD_eq_getElem?_getD, List.getElem?_eq_getElem h]
  simp
theorem size_flat (gs : List (List (List UInt8))) : ∀ g ∈ gs, sizeF g ≤ sizeF gs.flatten := by
  induction gs with
  | nil => intro g h; cases h
  | cons c cs ih =>
    intro g h
    rw [List.flatten_cons, size_app]
    rcases List.mem_cons.1 h with rfl | h
    · omega
    · have := ih g h; omega
theorem ok_flat (gs : List (List (List UInt8))) (f : Int) : ∀ i, i < gs.length → okF f gs.flatten → okF (f + ((gs.take i).flatten.length : Nat)) (gs.getD i []) := by
  induction gs generalizing f with
  | nil => intro i h; cases h
  | cons c cs ih =>
    intro i h hk
    rw [List.flatten_cons, ok_app] at hk
    cases i with
    | zero => simpa using hk.1
    | succ i =>
      have := ih (f + c.length) i (by simpa using h) hk.2
      rw [List.take_succ_cons, List.flatten_cons, List.length_append]
      rw [show f + ((c.length + (cs.take i).flatten.length : Nat) : Int) = f + c.length + ((cs.take i).flatten.length : Nat) by omega]
      exact this
theorem allB_len (gs : List (List (List UInt8))) (i : Nat) : (allB gs i).length = (gs.take i).flatten.length := by unfold allB; rw [List.length_map]
theorem allB_le (gs : List (List (List UInt8))) (i : Nat) : (allB gs i).length ≤ (allB gs gs.length).length := by
  rw [allB_len, allB_len, List.take_length]
  have e : gs.flatten = (gs.take i).flatten ++ (gs.drop i).flatten := by rw [← List.flatten_append, List.take_append_drop]
  have := congrArg List.length e
  rw [List.length_append] at this
  omega
theorem gB_mem (gs : List (List (List UInt8))) (i : Nat) (h : i < gs.length) : ∀ p ∈ gB gs i, p ∈ allB gs gs.length := by
  intro p hp
  unfold gB at hp
  unfold allB
  obtain ⟨l, hl, rfl⟩ := List.mem_map.1 hp
  rw [List.take_length]
  refine List.mem_map.2 ⟨l, List.mem_flatten.2 ⟨gs.getD i [], ?_, hl⟩, rfl⟩
  rw [List.getD_eq_getElem?_getD, List.getElem?_eq_getElem h]
  exact List.getElem_mem _
theorem fits_is (size n most : Int) (w : World) (hs : 0 ≤ size ∧ size ≤ 400000) (hm : -9223372036854775808 ≤ most ∧ most ≤ 9223372036854775807) (h : fitB size n most = false) :
    Calls Tryz.prog 20 #[.int .i64 size, .int .i64 n, .int .i64 most] w fun e w' => e = .returned (.bool false) ∧ w' = w := by
  have := fits_any size n most (by omega) hm w
  rw [h] at this
  exact this
theorem split_tells (f most : Int) (z : List ByteArray) (hE : spE f z most = 0) (hs : sumZ z ≤ 20000) :
    ∃ (g : Nat) (gs : List (List (List UInt8))) (out : List ByteArray), f = g ∧ g + z.length ≤ 1048576 ∧ (64 ≤ most ∧ most ≤ 65536) ∧ spO f z most = out ∧ out.length = gs.length ∧ 0 < gs.length ∧ allB gs gs.length = z ∧
      (∀ i, i < gs.length → ScanTo (out.getD i ByteArray.empty) ((g : Int) + (allB gs i).length) (gB gs i).length ((out.getD i ByteArray.empty).size : Nat) true (gB gs i) ∧ (out.getD i ByteArray.empty).size ≤ 400000 ∧ (most < (out.getD i ByteArray.empty).size → (gB gs i).length = 1)) ∧
      (∀ i, i + 1 < gs.length → ∃ p r, gB gs (i + 1) = p :: r ∧ fitB ((out.getD i ByteArray.empty).size : Nat) (p.size : Nat) most = false) := by
  obtain ⟨hf, hm, hp, hl⟩ := sp_parts hE
  obtain ⟨g, rfl⟩ : ∃ g : Nat, f = g := ⟨f.toNat, by omega⟩
  obtain ⟨mo, rfl⟩ : ∃ mo : Nat, most = mo := ⟨most.toNat, by omega⟩
  have hO : spO (g : Int) z (mo : Int) = (segsOf g (spGr mo [] (paysL z))).map bs := by
    unfold spO spB
    rw [if_pos hE, Int.toNat_natCast, Int.toNat_natCast, spL_groups]
  have hall := gr_all mo (paysL z) []
  rw [List.nil_append] at hall
  have hok : okF g (paysL z) := ok_of _ _ (by omega) (by rw [pays_len]; omega) (fun l hl' => by
    obtain ⟨p, hp', rfl⟩ := List.mem_map.1 hl'
    exact hp p hp')
  have hbig := gr_big mo (by omega) (paysL z) [] (.inl (by simp))
  have hnext := gr_next mo (paysL z) []
  have hne := gr_ne mo (paysL z) []
  have hsz := size_sum z
  generalize spGr mo [] (paysL z) = gs at *
  have hget : ∀ i, i < gs.length → (((segsOf g gs).map bs).getD i ByteArray.empty).data.toList = hdrL (g + (gs.take i).flatten.length) ++ joinF ((g + (gs.take i).flatten.length : Nat) : Int) (gs.getD i []) := by
    intro i hi
    have h1 : gs[i]? = some (gs.getD i []) := by rw [List.getD_eq_getElem?_getD, List.getElem?_eq_getElem hi]; rfl
    have := segs_get gs g i _ h1
    rw [List.getD_eq_getElem?_getD, List.getElem?_map, this]
    exact bs_data _
  have hgs : ∀ i, i < gs.length → (((segsOf g gs).map bs).getD i ByteArray.empty).size = 16 + sizeF (gs.getD i []) := by
    intro i hi
    have : (((segsOf g gs).map bs).getD i ByteArray.empty).data.toList.length = (((segsOf g gs).map bs).getD i ByteArray.empty).size := rfl
    rw [← this, hget i hi, List.length_append, hdr_len, join_len]
  have hmem : ∀ i, i < gs.length → gs.getD i [] ∈ gs := fun i hi => by
    rw [List.getD_eq_getElem?_getD, List.getElem?_eq_getElem hi]; exact List.getElem_mem _
  have hbl : ∀ i, (gB gs i).length = (gs.getD i []).length := fun i => by unfold gB; rw [List.length_map]
  refine ⟨g, gs, (segsOf g gs).map bs, rfl, by omega, hm, hO, by rw [List.length_map, segs_len], ?_, ?_, fun i hi => ⟨?_, ?_, fun h => ?_⟩, fun i hi => ?_⟩
  · cases gs with
    | nil => exact absurd rfl hne
    | cons c cs => simp
  · unfold allB
    rw [List.take_length, hall, bs_pays]
  · have hk : okF ((g + (gs.take i).flatten.length : Nat) : Int) (gs.getD i []) := by
      have := ok_flat gs g i hi (by rw [hall]; exact hok)
      rw [show ((g + (gs.take i).flatten.length : Nat) : Int) = (g : Int) + ((gs.take i).flatten.length : Nat) by omega]
      exact this
    have hfl : (gs.take i).flatten.length ≤ z.length := by
      have e : gs.flatten = (gs.take i).flatten ++ (gs.drop i).flatten := by rw [← List.flatten_append, List.take_append_drop]
      have := congrArg List.length e
      rw [List.length_append, hall, pays_len] at this
      omega
    have hsc := scanTo_of (s := ((segsOf g gs).map bs).getD i ByteArray.empty) (f := g + (gs.take i).flatten.length) (ls := gs.getD i []) (by rw [hget i hi]; exact seg_whole _ (by omega) _ hk) hk (by
      have := size_flat gs _ (hmem i hi)
      rw [hall] at this
      rw [hgs i hi]; omega)
    rw [← hgs i hi, decide_eq_true rfl] at hsc
    rw [allB_len, hbl, show (g : Int) + ((gs.take i).flatten.length : Nat) = ((g + (gs.take i).flatten.length : Nat) : Int) by omega]
    exact hsc
  · have := size_flat gs _ (hmem i hi)
    rw [hall] at this
    rw [hgs i hi]; omega
  · rw [hbl]
    rw [hgs i hi] at h
    exact hbig _ (hmem i hi) (by omega)
  · obtain ⟨l, r, e, h1, h2⟩ := hnext i _ _ (List.getElem?_eq_getElem (show i < gs.length by omega)) (List.getElem?_eq_getElem hi)
    refine ⟨bs l, r.map bs, ?_, ?_⟩
    · unfold gB
      rw [List.getD_eq_getElem?_getD, List.getElem?_eq_getElem hi]
      show (gs[i + 1]).map bs = _
      rw [e]
      rfl
    · have hgi : gs.getD i [] = gs[i] := by rw [List.getD_eq_getElem?_getD, List.getElem?_eq_getElem (show i < gs.length by omega)]; rfl
      rw [hgs i (by omega), hgi, size_bs]
      unfold fitB
      rw [show (((16 + sizeF gs[i] : Nat) : Int) == 16) = false by rw [beq_eq_false_iff_ne]; omega, decide_eq_false (by omega : ¬ (((16 + sizeF gs[i] : Nat) : Int) + 16 + (l.length : Nat) ≤ (mo : Int)))]
      simp
end Go.Proofs.YtaonjbkkgeiniaaGreatDoor
