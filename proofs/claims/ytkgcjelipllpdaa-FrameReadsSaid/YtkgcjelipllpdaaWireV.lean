/- Walks over package wire: the Writer's methods. -/
import Derived.Test.YtkgcjelipllpdaaWireW
import Derived.Test.YtkgcjelipllpdaaRev
namespace Go.Proofs.Ytkgcjelipllpdaa
open Go.RowKit

theorem be4_rev (c : BitVec 32) : be4 (rev c).toNat = four c := by
  have h := b32lt c
  have e : ∀ i j, (rev c).toNat / 256 ^ i % 256 = c.toNat / 256 ^ j % 256 → byt64 (rev c).toNat i = byt c j := by
    intro i j he
    apply UInt8.toNat_inj.1
    unfold byt64 byt
    rw [UInt8.toNat_ofNat', UInt8.toNat_ofNat']
    exact he
  obtain ⟨a0, a1, a2, a3, h0, h1, h2, h3, hn⟩ : ∃ a0 a1 a2 a3, a0 < 256 ∧ a1 < 256 ∧ a2 < 256 ∧ a3 < 256 ∧ c.toNat = a0 + 256 * a1 + 65536 * a2 + 16777216 * a3 :=
    ⟨c.toNat % 256, c.toNat / 256 % 256, c.toNat / 65536 % 256, c.toNat / 16777216, by omega, by omega, by omega, by omega, by omega⟩
  have hr : (rev c).toNat = a0 * 16777216 + a1 * 65536 + a2 * 256 + a3 := by
    rw [rev_nat, hn, show (a0 + 256 * a1 + 65536 * a2 + 16777216 * a3) % 256 = a0 by omega, show (a0 + 256 * a1 + 65536 * a2 + 16777216 * a3) / 256 % 256 = a1 by omega,
      show (a0 + 256 * a1 + 65536 * a2 + 16777216 * a3) / 65536 % 256 = a2 by omega, show (a0 + 256 * a1 + 65536 * a2 + 16777216 * a3) / 16777216 = a3 by omega]
  unfold be4 four
  rw [e 3 0 (by rw [hr, hn]; simp only [Nat.reducePow]; rw [show (a0 * 16777216 + a1 * 65536 + a2 * 256 + a3) / 16777216 = a0 by omega, show (a0 + 256 * a1 + 65536 * a2 + 16777216 * a3) / 1 = a0 + 256 * a1 + 65536 * a2 + 16777216 * a3 by omega]; omega),
    e 2 1 (by rw [hr, hn]; simp only [Nat.reducePow]; rw [show (a0 * 16777216 + a1 * 65536 + a2 * 256 + a3) / 65536 = a0 * 256 + a1 by omega, show (a0 + 256 * a1 + 65536 * a2 + 16777216 * a3) / 256 = a1 + 256 * a2 + 65536 * a3 by omega]; omega),
    e 1 2 (by rw [hr, hn]; simp only [Nat.reducePow]; rw [show (a0 * 16777216 + a1 * 65536 + a2 * 256 + a3) / 256 = a0 * 65536 + a1 * 256 + a2 by omega, show (a0 + 256 * a1 + 65536 * a2 + 16777216 * a3) / 65536 = a2 + 256 * a3 by omega]; omega),
    e 0 3 (by rw [hr, hn]; simp only [Nat.reducePow]; rw [show (a0 * 16777216 + a1 * 65536 + a2 * 256 + a3) / 1 = a0 * 16777216 + a1 * 65536 + a2 * 256 + a3 by omega, show (a0 + 256 * a1 + 65536 * a2 + 16777216 * a3) / 16777216 = a3 by omega]; omega)]

theorem strCells_cl (s : ByteArray) : Lib.strCells s = cl s.data.toList := rfl

set_option maxHeartbeats 400000 in
theorem wU32 (b : Nat) (l : List UInt8) (n : Nat) (w : World) (hn : n < 4294967296) (hl : l.length ≤ 1000000) (h : Wrt w b l) :
    Calls Try.prog 34 #[.pointer (some ⟨b, 0, none⟩), .int .u32 n] w
      fun e w' => e = .returned (.tuple #[]) ∧ Wrt w' b (l ++ be4 n) ∧ Below b w w' := by
  obtain ⟨oa, cap, h⟩ := h
  go_enter Try.func34, Try.ntmps34
  go_wp2_with fail
  refine (wfixed4 b l oa cap n w hn hl h).mono ?_
  rintro e w' ⟨rfl, h1, h2⟩
  go_wp2_with fail
  go_end0
  exact ⟨rfl, h1, h2⟩

set_option maxHeartbeats 400000 in
theorem wU64 (b : Nat) (l : List UInt8) (n : Nat) (w : World) (hn : n < 18446744073709551616) (hl : l.length ≤ 1000000) (h : Wrt w b l) :
    Calls Try.prog 35 #[.pointer (some ⟨b, 0, none⟩), .int .u64 n] w
      fun e w' => e = .returned (.tuple #[]) ∧ Wrt w' b (l ++ be8 n) ∧ Below b w w' := by
  obtain ⟨oa, cap, h⟩ := h
  go_enter Try.func35, Try.ntmps35
  go_wp2_with fail
  refine (wfixed8 b l oa cap n w hn hl h).mono ?_
  rintro e w' ⟨rfl, h1, h2⟩
  go_wp2_with fail
  go_end0
  exact ⟨rfl, h1, h2⟩

set_option maxHeartbeats 400000 in
theorem wLow (b : Nat) (l : List UInt8) (c : BitVec 32) (w : World) (hl : l.length ≤ 1000000) (h : Wrt w b l) :
    Calls Try.prog 36 #[.pointer (some ⟨b, 0, none⟩), .int .u32 c.toNat] w
      fun e w' => e = .returned (.tuple #[]) ∧ Wrt w' b (l ++ four c) ∧ Below b w w' := by
  rw [← be4_rev]
  have hn := b32lt (rev c)
  go_enter Try.func36, Try.ntmps36
  go_wp2_with fail
  refine (rev_str c w).mono ?_
  rintro e w' ⟨rfl, rfl⟩
  go_wp2_with fail
  refine (wU32 b l _ w hn hl h).mono ?_
  rintro e w' ⟨rfl, h1, h2⟩
  go_wp2_with fail
  go_end0
  exact ⟨rfl, h1, h2⟩

theorem wappS {ops : Array Oper} {rest : List Oper} {o : Oper} {a : Act} {Q : Exit → Act → World → Prop} (w : World) {b : Nat} {l : List UInt8} {oa : Option Addr} {cap : Nat} (h : wrt w b l oa cap) (hgd : o.guard = none) (s x : Operand)
    (ho : o.op = .call { callee := .builtin .append, args := #[s, x], argTypes := #[46, 9] }) (hs : a.eval s = .slice oa l.length cap) (t : ByteArray) (hx : a.eval x = .string t)
    (hl : l.length + t.size ≤ 1000000000)
    (hK : ∀ oa' cap' w1, w1.cell? ⟨b, 0, none⟩ = some (.slice oa l.length cap) → w1.frozen? ⟨b, 0, none⟩ = false → wrt (w1.setCell ⟨b, 0, none⟩ (.slice oa' (l ++ t.data.toList).length cap')) b (l ++ t.data.toList) oa' cap' →
      Below b w (w1.setCell ⟨b, 0, none⟩ (.slice oa' (l ++ t.data.toList).length cap')) → wpList Try.prog ops Q rest (a.put o.dst (.slice oa' (l ++ t.data.toList).length cap')) w1) :
    wpList Try.prog ops Q (o :: rest) a w := by
  obtain ⟨i0, hi, hz0, hz1, hz2⟩ := info_parts infoU8
  have hlt := h.lt
  have hts : t.data.toList.length = t.size := rfl
  refine Lib.wpList_append_own_string w hgd s x _ _ ho (b + 1) 5 i0 Try.underlying46 Try.underlying9 hi hz0 hz1 hz2 _ l.length (cl l) hs h.2 t hx (by unfold maxLen; omega) (by omega) (by omega) ?_
  intro v' w1 hown hg _
  rw [strCells_cl, ← hts] at hown
  have hne : some b ≠ Value.ownBlock (.slice oa l.length cap) := by
    intro e
    have := h.2.lt b e.symm
    omega
  have hb1 : w1.heap[b]? = some (.cells #[.slice oa l.length cap] 72) := by
    rw [hg.block b hlt hne]; exact h.1
  have hv : ∃ oa' cap', v' = .slice oa' (l.length + t.data.toList.length) cap' := by
    rcases hown.2 with ⟨rfl, h0⟩ | ⟨g, c, cur, rfl, _⟩
    · exact ⟨none, 0, by rw [h0]⟩
    · exact ⟨_, _, rfl⟩
  obtain ⟨oa', cap', rfl⟩ := hv
  have hK' := hK oa' cap' w1 (by rw [cell_of_row _ _ _ _ _ _ hb1]; rfl) (frozen_of_row _ _ _ _ _ hb1)
  rw [List.length_append] at hK'
  refine hK' ⟨?_, ?_⟩ ?_
  · rw [heap_setCell_same _ _ _ _ _ _ hb1, List.length_append]; rfl
  · have := ownsRow_setCell_below hown (a := ⟨b, 0, none⟩) (by show b < b + 1; omega) (.slice oa' (l.length + t.data.toList.length) cap')
    rw [List.length_append, cl_append]
    exact this
  · have h2 : Below b w w1 := (Below.refl b w).grown hg (by omega) (fun k e => by have := (h.2.lt k e).1; omega)
    exact h2.setCell (Nat.le_refl _) _

set_option maxHeartbeats 400000 in
theorem wRaw (b : Nat) (l : List UInt8) (t : ByteArray) (w : World) (hl : l.length + t.size ≤ 1000000000) (h : Wrt w b l) :
    Calls Try.prog 38 #[.pointer (some ⟨b, 0, none⟩), .string t] w
      fun e w' => e = .returned (.tuple #[]) ∧ Wrt w' b (l ++ t.data.toList) ∧ Below b w w' := by
  obtain ⟨oa, cap, h⟩ := h
  have hc := h.cell
  have H := Lib.hid h
  have HL := Lib.hid hl
  clear h hl
  go_enter Try.func38, Try.ntmps38
  go_wp2_with (at_builtin; refine wappS w H.out rfl _ _ rfl rfl t rfl HL.out ?_; intro oa1 cap1 w1 hc1 hf1 hw1 hb1)
  go_end0
  refine ⟨rfl, ⟨oa1, cap1, ?_⟩, ?_⟩
  · simpa using hw1
  · simpa using hb1

theorem wrt.conv {w : World} {b : Nat} {l : List UInt8} {oa : Option Addr} {cap : Nat} (h : wrt w b l oa cap) :
    (convert 46 9 (.slice oa l.length cap)).run Try.prog w = .ok (.string (bs l)) w := by
  rcases h.2.2 with ⟨hv, h0⟩ | ⟨g, c, cur, hv, _⟩
  · obtain rfl : l = [] := List.eq_nil_of_length_eq_zero h0
    cases hv
    rw [List.length_nil, run_convert_bytes_string w _ _ 5 _ _ _ Try.underlying46 Try.underlying5 Try.underlying9]
    rfl
  · cases hv
    refine run_convert_bytes_back _ _ _ 5 _ _ l Try.underlying46 Try.underlying5 Try.underlying9 ?_
    intro j hj
    have := h.2.cells (g := g) rfl j (.int .u8 (l[j].toNat : Int)) (by unfold cl; simp [hj])
    exact this

set_option maxHeartbeats 400000 in
theorem wBytes (b : Nat) (l : List UInt8) (w : World) (h : Wrt w b l) :
    Calls Try.prog 37 #[.pointer (some ⟨b, 0, none⟩)] w
      fun e w' => e = .returned (.string (bs l)) ∧ w = w' := by
  obtain ⟨oa, cap, h⟩ := h
  have hc := h.cell
  have hconv := h.conv
  clear h
  go_enter Try.func37, Try.ntmps37
  go_wp2_with fail
  go_ret
  exact ⟨rfl, rfl⟩

end Go.Proofs.Ytkgcjelipllpdaa
