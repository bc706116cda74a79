/- The constants of IndexNames. Plain lists. -/
import Derived.Test.YtmeefecpnfclpaaRGet
import Derived.Test.YtmeefecpnfclpaaIdxP
import Derived.Test.YtmeefecpnfclpaaIdxD
namespace Go.Proofs.Ytmeefecpnfclpaa
open Go.RowKit

def nmZ : List ByteArray := [⟨#[97]⟩, ⟨#[98]⟩, ⟨#[99]⟩, ⟨#[100]⟩]
theorem nm_jn0 : jnE 0 (paysL nmZ) = 0 := by decide
theorem nm_jn1 : jnE 1 (paysL nmZ) = 0 := by decide
def nmL : List UInt8 := jnL 0 (paysL nmZ)
def nmS : ByteArray := bs nmL
def nmO : ByteArray := bs (jnL 1 (paysL nmZ))
theorem nm_list : nmL = hdrL 0 ++ joinF 0 (paysL nmZ) := (seg_scan nm_jn0).1
theorem nm_len : nmL.length = 84 := (seg_scan nm_jn0).2.1
theorem nm_ok : okF 0 (paysL nmZ) := (jn_ok nm_jn0).2.2.2.2
theorem nm_size : nmS.size = 84 := by unfold nmS; rw [size_bs, nm_len]
theorem nm_F : ixF nmL = 0 := by have := (seg_scan nm_jn0).2.2.2.1; unfold ixF; show hdF (jnL 0 (paysL nmZ)) = 0; omega
theorem nm_P : ixP nmL = [16, 33, 50, 67] := by
  have h := (seg_scan nm_jn0).2.2.2.2.1
  have := nm_F
  unfold ixF at this
  unfold ixP; rw [this]; exact h
theorem nm_G : ixG nmL = 84 := by
  have h := (seg_scan nm_jn0).2.2.2.2.2
  have := nm_F
  unfold ixF at this
  unfold ixG; rw [this]; exact h
theorem nm_hd : hdE nmL = 0 := (seg_scan nm_jn0).2.2.1
theorem nm_bd (e : Int) (h1 : 1 ≤ e) (h2 : e ≤ 64) : bdE e nmL = 0 := by unfold bdE; rw [if_neg (by omega)]; exact nm_hd
theorem nm_arg (e : Int) (l : List UInt8) (h : e < 1 ∨ 64 < e) : bdE e l = 1 := by unfold bdE; rw [if_pos h]
theorem nm_empty : bdE 3 [] = 8 := by decide
/-- cut anywhere behind the header -/
theorem nm_cut (k : Nat) (hk : 16 ≤ k) : hdE (nmL.take k) = 0 ∧ hdF (nmL.take k) = 0 := by
  have e : nmL.take k = hdrL 0 ++ (joinF 0 (paysL nmZ)).take (k - 16) := by
    have h16 := hdr_len 0
    rw [nm_list, List.take_append, h16, List.take_of_length_le (by rw [h16]; exact hk)]
  rw [e]
  exact hd_made 0 _ (by omega)
theorem nm_cutscan (k : Nat) (hk : 16 ≤ k) : scanL (nmL.take k) 16 0 = placesF 16 ((paysL nmZ).take (wholeF 16 (paysL nmZ) k)) ∧ scanG (nmL.take k) 16 0 = 16 + sizeF ((paysL nmZ).take (wholeF 16 (paysL nmZ) k)) := by
  have h16 := hdr_len 0
  have := scanL_cut (paysL nmZ) (hdrL 0) 0 k nm_ok (by rw [h16]; exact hk)
  rw [h16, ← nm_list] at this
  exact this
theorem nm_cutF (k : Nat) (hk : 16 ≤ k) : ixF (nmL.take k) = 0 := (nm_cut k hk).2
theorem nm_cutbd (k : Nat) (hk : 16 ≤ k) : bdE 2 (nmL.take k) = 0 := by unfold bdE; rw [if_neg (by omega)]; exact (nm_cut k hk).1
theorem nm_torn : ixP (nmL.take 83) = [16, 33, 50] ∧ ixG (nmL.take 83) = 67 := by
  obtain ⟨h1, h2⟩ := nm_cutscan 83 (by omega)
  unfold ixP ixG
  rw [(nm_cut 83 (by omega)).2]
  exact ⟨h1, h2⟩
theorem nm_bare : ixP (nmL.take 16) = [] ∧ ixG (nmL.take 16) = 16 := by
  obtain ⟨h1, h2⟩ := nm_cutscan 16 (by omega)
  unfold ixP ixG
  rw [(nm_cut 16 (by omega)).2]
  exact ⟨h1, h2⟩
theorem nm_magic (r : List UInt8) (h : 12 ≤ r.length) : bdE 3 ([115, 101, 103, 50] ++ r) = 4 := by
  unfold bdE hdE
  rw [if_neg (by omega), if_neg (by rw [List.length_append]; show ¬ 4 + r.length < 16; omega), if_pos]
  show ([115, 101, 103, 50] : List UInt8) ≠ magicL
  decide
theorem nm_none (l : List UInt8) : gE 2 0 [] l 0 = 5 := by
  unfold gE
  rw [if_neg]
  unfold inIx; simp
theorem nm_at0 : gE 2 0 [16] nmL 0 = 0 ∧ gP 2 0 [16] nmL 0 = ⟨#[97]⟩ := by
  have h16 := hdr_len 0
  have hx : inIx 0 [16].length 0 := by unfold inIx; simp
  have g1 := (get_join (paysL nmZ) (hdrL 0) 0 nm_ok 0 0 0 (by decide) rfl).1
  have g2 := getP_join (paysL nmZ) (hdrL 0) 0 nm_ok 0 0 0 (by decide) rfl
  rw [h16, ← nm_list] at g1 g2
  unfold gE gP
  rw [if_pos hx, if_pos hx]
  exact ⟨g1, by show bs (getP nmL 0 16 0) = _; rw [show getP nmL 0 16 0 = _ from g2]; rfl⟩
theorem nm_first (k : Nat) (hk : 33 ≤ k) (hk2 : k ≤ 84) : fE (nmL.take k) 16 = 0 ∧ fQ (nmL.take k) 16 = 0 ∧ fNext (nmL.take k) 16 = 33 := by
  have h16 := hdr_len 0
  have hj : joinF 0 (paysL nmZ) = frm 0 [97] ++ joinF 1 ((paysL nmZ).drop 1) := rfl
  have e : nmL.take k = hdrL 0 ++ (frm 0 [97] ++ (joinF 1 ((paysL nmZ).drop 1)).take (k - 33)) := by
    have hf := frm_len 0 [97]
    have hf2 : (frm 0 [97]).length = 17 := hf
    rw [nm_list, List.take_append, h16, List.take_of_length_le (by rw [h16]; omega), hj, List.take_append, hf2, List.take_of_length_le (l := frm 0 [97]) (by rw [hf2]; omega), show k - 16 - 17 = k - 33 by omega]
  obtain ⟨a, b, c, _⟩ := read_made (hdrL 0) [97] ((joinF 1 ((paysL nmZ).drop 1)).take (k - 33)) 0 (by omega) (by decide) (by decide)
  rw [h16] at a b c
  rw [e]
  refine ⟨a, c, ?_⟩
  unfold fNext; rw [b]; rfl
theorem nm_len40 : (nmL.take 40).length = 40 := by rw [List.length_take, nm_len]; rfl
theorem nm_short : gE 64 0 [16, 33, 50, 67] (nmL.take 40) 3 = 8 ∧ gE 1 0 [16, 33, 50, 67] (nmL.take 40) 3 = 8 := by
  have hl := nm_len40
  have hx : inIx 0 [16, 33, 50, 67].length 3 := by unfold inIx; simp
  obtain ⟨a, b, c⟩ := nm_first 40 (by omega) (by omega)
  unfold gE
  rw [if_pos hx, if_pos hx]
  constructor
  · show getE (nmL.take 40) 3 16 0 = 8
    rw [(getE_next (nmL.take 40) 2 16 0 (by omega) a b).1, c]
    have h8 : fE (nmL.take 40) 33 = 8 := by unfold fE; rw [if_pos (by omega)]
    rw [getE_bad _ _ _ _ (by omega) (by rw [h8]; decide), h8]
  · show getE (nmL.take 40) 0 67 3 = 8
    exact getE_far _ _ _ _ (by omega)
theorem nm_neg (l : List UInt8) : gE 1 0 [16, 33, 50, 67] l (-1) = 5 := by
  unfold gE
  rw [if_neg]
  unfold inIx; simp
theorem nm_other : gE 64 0 [16, 33, 50, 67] (jnL 1 (paysL nmZ)) 2 = 4 := by
  have hx : inIx 0 [16, 33, 50, 67].length 2 := by unfold inIx; simp
  unfold gE
  rw [if_pos hx]
  show getE (jnL 1 (paysL nmZ)) 2 16 0 = 4
  have hl := (seg_scan nm_jn1).1
  have h16 := hdr_len 1
  have hok := (jn_ok nm_jn1).2.2.2.2
  have hL := (seg_scan nm_jn1).2.1
  have hLn : (jnL 1 (paysL nmZ)).length = 84 := hL
  obtain ⟨a, b, _⟩ := join_at (paysL nmZ) (hdrL 1) 1 0 (by decide) hok
  have hl2 : jnL 1 (paysL nmZ) = hdrL 1 ++ joinF 1 (paysL nmZ) := hl
  rw [h16, ← hl2] at a b
  exact getE_seq _ _ _ _ (by omega) a (by intro h; have b' : ((fQ (jnL 1 (paysL nmZ)) 16 : Nat) : Int) = 1 + ((0 : Nat) : Int) := b; rw [h] at b'; omega)
/-- the last segment -/
theorem nm_last : bdE 5 (hdrL 1048575) = 0 ∧ ixF (hdrL 1048575) = 1048575 ∧ ixP (hdrL 1048575) = [] ∧ ixG (hdrL 1048575) = 16 := by
  have h16 := hdr_len 1048575
  obtain ⟨a, b⟩ := hd_made 1048575 [] (by omega)
  rw [List.append_nil] at a b
  obtain ⟨c, d⟩ := scanL_whole [] (hdrL 1048575) 1048575 trivial
  have e : hdrL 1048575 ++ joinF 1048575 [] = hdrL 1048575 := List.append_nil _
  rw [e, h16] at c d
  refine ⟨by unfold bdE; rw [if_neg (by omega)]; exact a, b, ?_, ?_⟩
  · unfold ixP; rw [b]; exact c
  · unfold ixG; rw [b]; exact d

end Go.Proofs.Ytmeefecpnfclpaa
