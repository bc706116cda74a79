/- Walks over the reference soukref12: Add. -/
import Derived.Test.YtmeefecpnfclpaaRGet
import Derived.Test.YtmeefecpnfclpaaIdxD
namespace Go.Proofs.Ytmeefecpnfclpaa
open Go.RowKit

/-- one integer more in a slice of the call's own -/
theorem rapp {ops : Array Oper} {rest : List Oper} {o : Oper} {a : Act} {Q : Exit → Act → World → Prop} {W : World} {B n : Nat} {v : Value} {xs : List Value} (hgd : o.guard = none) (s x : Operand)
    (ho : o.op = .call { callee := .builtin .append, args := #[s, x], argTypes := #[53, 53] }) (y : Int) (hs : a.eval s = v) (hx : a.eval x = .slice (some ⟨W.heap.size, 0, none⟩) 1 1)
    (hown : W.ownsRow B 3 1 v n xs) (hB : B ≤ W.heap.size) (hn : n ≤ 8796093021952)
    (hK : ∀ v' w1, w1.ownsRow B 3 1 v' (n + 1) (xs ++ [.int .i64 y]) → (W.alloc (.cells #[.int .i64 y] 3)).grownBy w1 v.ownBlock → wpList Try.prog ops Q rest (a.put o.dst v') w1) :
    wpList Try.prog ops Q (o :: rest) a (W.alloc (.cells #[.int .i64 y] 3)) := by
  obtain ⟨i0, hi, hz0, hz1, hz2⟩ := info_parts infoInt
  refine wpList_append_own _ hgd s x 53 ho B 3 i0 (.int .i64 0) 1 8 Try.underlying53 hi hz0 hz1 hz2 rfl (by decide) v n xs hs (hown.alloc _) ⟨W.heap.size, 0, none⟩ 1 1 [.int .i64 y] hx rfl
    ?_ (by intro u hu; simp at hu; subst hu; rfl) (by unfold maxLen; omega) (by omega) (by simp; omega) ?_
  · intro j u hj
    match j, hj with
    | 0, hj => simp at hj; subst hj; simp [Addr.add]
  · intro v' w1 h1 hg _
    exact hK v' w1 h1 hg

/-- what Add keeps: whatever lay below B, and whatever is of other types -/
structure KeepR (B : Nat) (W W' : World) : Prop where
  os : W'.os = W.os
  tape : W'.tape = W.tape
  output : W'.output = W.output
  size : W.heap.size ≤ W'.heap.size
  low : ∀ k, k < B → k < W.heap.size → W'.heap[k]? = W.heap[k]?
  far : ∀ (k : Nat) (arr : Array Value) (t : TypeId) (fr : Nat × Nat), W.heap[k]? = some (.cells arr t fr) → t ≠ 3 → t ≠ 72 → W'.heap[k]? = some (.cells arr t fr)
theorem KeepR.of_below {B : Nat} {A C : World} (h : Below A.heap.size A C) : KeepR B A C :=
  ⟨h.os, h.tape, h.output, h.size, fun k _ hk => h.block k hk, fun k _ _ _ hk _ _ => (h.block k (Array.getElem?_eq_some_iff.1 hk).1).trans hk⟩
theorem KeepR.trans {B : Nat} {A C D : World} (h : KeepR B A C) (k : KeepR B C D) : KeepR B A D :=
  ⟨k.os.trans h.os, k.tape.trans h.tape, k.output.trans h.output, Nat.le_trans h.size k.size, fun i hi hl => (k.low i hi (Nat.lt_of_lt_of_le hl h.size)).trans (h.low i hi hl), fun i _ _ _ ha h1 h2 => k.far i _ _ _ (h.far i _ _ _ ha h1 h2) h1 h2⟩
theorem KeepR.setCell {B : Nat} {A C : World} (h : KeepR B A C) {p : Addr} {arr : Array Value} {fr : Nat × Nat} (hp : C.heap[p.block]? = some (.cells arr 72 fr)) (hB : B ≤ p.block) (v : Value) : KeepR B A (C.setCell p v) := by
  have hb : Below 0 C (C.setCell p v) := (Below.refl 0 C).setCell (Nat.zero_le _) v
  refine ⟨hb.os.trans h.os, hb.tape.trans h.tape, hb.output.trans h.output, Nat.le_trans h.size hb.size, fun i hi hl => ?_, fun i _ _ _ ha h1 h2 => ?_⟩
  · rw [heap_setCell_ne _ _ _ (by omega)]; exact h.low i hi hl
  · have hk := h.far i _ _ _ ha h1 h2
    rw [heap_setCell_ne _ _ _ (fun e => by subst e; rw [hp] at hk; cases hk; exact h2 rfl)]; exact hk

theorem radd_far {B n : Nat} {v : Value} {xs : List Value} {w1 w2 : World} {o : Obj} (hrow : w1.ownsRow B 3 1 v n xs) (hg : (w1.alloc o).grownBy w2 v.ownBlock) {k : Nat} {arr : Array Value} {t : TypeId} {fr : Nat × Nat}
    (h : w1.heap[k]? = some (.cells arr t fr)) (ht : t ≠ 3) : w2.heap[k]? = some (.cells arr t fr) := by
  have hk := (Array.getElem?_eq_some_iff.1 h).1
  rw [hg.block k (by simp; omega) (fun e => by
    rcases hrow.2 with ⟨rfl, _⟩ | ⟨g, c, cur, rfl, _, hcur, _⟩
    · simp [Value.ownBlock] at e
    · simp [Value.ownBlock] at e
      subst e
      rw [hcur] at h
      cases h
      exact ht rfl)]
  exact (((Below.refl w1.heap.size w1).alloc (Nat.le_refl _) o).block k hk).trans h
theorem radd_keep {B n : Nat} {v : Value} {xs : List Value} {w1 w2 : World} {o : Obj} (hrow : w1.ownsRow B 3 1 v n xs) (hg : (w1.alloc o).grownBy w2 v.ownBlock) : KeepR B w1 w2 := by
  have hz := hg.size
  refine ⟨hg.os, hg.tape, hg.output, by simp at hz; omega, fun k hk hl => ?_, fun k _ _ _ h h1 _ => radd_far hrow hg h h1⟩
  rw [hg.block k (by simp; omega) (fun e => by have := (hrow.lt k e.symm).1; omega)]
  exact ((Below.refl w1.heap.size w1).alloc (Nat.le_refl _) o).block k hl

/-- what Add tells -/
def raP (B b e f gd : Nat) (ps : List Nat) (n : Int) (w : World) (e' : Ending) (w' : World) : Prop :=
  (addE (f + ps.length) n = 0 ∧ e' = .returned (.tuple #[.int .i64 gd, .int .i64 0]) ∧ Rxr B w' b e f (ps ++ [gd]) (gd + 16 + n.toNat) ∧ KeepR B w w') ∨
  (addE (f + ps.length) n ≠ 0 ∧ e' = .returned (.tuple #[.int .i64 0, .int .i64 (addE (f + ps.length) n)]) ∧ Below w.heap.size w w')

set_option maxRecDepth 100000 in
set_option maxHeartbeats 2000000 in
theorem radd_any (B b e f gd : Nat) (ps : List Nat) (n : Int) (w : World) (hg : gd ≤ 1000000000) (hn : f + ps.length ≤ 1000000000) (hB : B ≤ w.heap.size) (h : Rxr B w b e f ps gd) :
    Calls Try.prog 27 #[.pointer (some ⟨b, 0, none⟩), .int .i64 n] w (raP B b e f gd ps n w) := by
  have HNX := Lib.hid (rNext_any B b e f gd ps w hn h)
  have HR := Lib.hid h
  have hE : addE (f + ps.length) n = if ¬ (1 ≤ n ∧ n ≤ 4096) then 4 else if 1048576 ≤ f + ps.length then 40 else 0 := rfl
  clear h
  by_cases h1 : n < 1
  · have d1 : decide (n < 1) = true := decide_eq_true h1
    rw [if_pos (by omega)] at hE
    go_enter Try.func27, Try.ntmps27
    go_wp2_with fail
    go_ret2
    exact .inr ⟨by rw [hE]; decide, by rw [hE]; rfl, Below.refl _ _⟩
  have d1 : decide (n < 1) = false := decide_eq_false h1
  by_cases h2 : 4096 < n
  · have d2 : decide ((4096 : Int) < n) = true := decide_eq_true h2
    rw [if_pos (by omega)] at hE
    go_enter Try.func27, Try.ntmps27
    go_wp2_with fail
    go_ret2
    exact .inr ⟨by rw [hE]; decide, by rw [hE]; rfl, Below.refl _ _⟩
  have d2 : decide ((4096 : Int) < n) = false := decide_eq_false h2
  rw [if_neg (by omega)] at hE
  obtain ⟨M, rfl⟩ : ∃ M : Nat, n = M := ⟨n.toNat, by omega⟩
  obtain ⟨N, hN⟩ : ∃ N, f + ps.length = N := ⟨_, rfl⟩
  rw [hN] at HNX hn
  have HNN := Lib.hid hN
  by_cases h3 : 1048576 ≤ N
  · have d3 : decide ((1048576 : Int) ≤ (N : Int)) = true := decide_eq_true (by omega)
    rw [if_pos (by omega)] at hE
    go_enter Try.func27, Try.ntmps27
    go_wp2_with fail
    refine HNX.out.mono ?_
    rintro e' w1 ⟨rfl, hb1⟩
    go_wp2_with fail
    go_ret2
    exact .inr ⟨by rw [hE]; decide, by rw [hE]; rfl, hb1⟩
  have d3 : decide ((1048576 : Int) ≤ (N : Int)) = false := decide_eq_false (by omega)
  rw [if_neg (by omega)] at hE
  have HEE := Lib.hid hE
  clear hE hN
  go_enter Try.func27, Try.ntmps27
  go_wp2_with fail
  refine HNX.out.mono ?_
  rintro e' w1 ⟨rfl, hb1⟩
  obtain ⟨hBb, v, hblk, hrow⟩ := HR.out.keep hb1
  obtain ⟨c0, c1, c2, c3, fz⟩ := rx_cells hblk
  have f2 := fz 2
  have f3 := fz 3
  have hwa : IntKind.i64.wrap ((gd : Int) + 16) = (gd : Int) + 16 := IntWalk.i64_in _ (by omega)
  have hwb : IntKind.i64.wrap ((gd : Int) + 16 + (M : Int)) = ((gd + 16 + M : Nat) : Int) := by rw [IntWalk.i64_in _ (by omega)]; omega
  obtain ⟨Z, hZ⟩ : ∃ Z, gd + 16 + M = Z := ⟨_, rfl⟩
  rw [hZ] at hwb
  have HZ := Lib.hid hZ
  clear hZ
  have hB1 : B ≤ w1.heap.size := Nat.le_trans hB hb1.size
  have HK1 := Lib.hid (KeepR.of_below (B := B) hb1)
  have HBK := Lib.hid hblk
  have HROW := Lib.hid hrow
  have hpl : ps.length ≤ 1000000000 := by have := HNN.out; omega
  clear fz hblk hrow hb1
  go_wp2_with (at_builtin; refine rapp rfl _ _ rfl (gd : Int) rfl rfl HROW.out hB1 (by omega) ?_; intro v' w2 hown hgrow; obtain ⟨g', cap', rfl⟩ := ownsRow_succ hown; have hgr : (w1.alloc (.cells #[.int .i64 gd] 3)).grownBy w2 v.ownBlock := hgrow; have hw2 := radd_far HROW.out hgr HBK.out (by decide); obtain ⟨z0, z1, z2, z3, zf⟩ := rx_cells hw2; have zf2 := zf 2; have zf3 := zf 3; have HGR := Lib.hid hgr; have HW2 := Lib.hid hw2; have HOWN := Lib.hid hown; clear hgr hgrow hown hw2 zf z0 z1)
  have hX2 : (w2.setCell ⟨b, 2, none⟩ (.slice (some ⟨g', 0, none⟩) (ps.length + 1) cap')).heap[b]? = some (.cells (rxC f e (.slice (some ⟨g', 0, none⟩) (ps.length + 1) cap') gd) 72) := heap_setCell_same _ _ 2 _ _ _ HW2.out
  have hX3 : ((w2.setCell ⟨b, 2, none⟩ (.slice (some ⟨g', 0, none⟩) (ps.length + 1) cap')).setCell ⟨b, 3, none⟩ (.int .i64 Z)).heap[b]? = some (.cells (rxC f e (.slice (some ⟨g', 0, none⟩) (ps.length + 1) cap') Z) 72) := heap_setCell_same _ _ 3 _ _ _ hX2
  have hR2 := row_setCell (j := 2) HOWN.out HW2.out (by decide) (.slice (some ⟨g', 0, none⟩) (ps.length + 1) cap')
  have hR3 := row_setCell (j := 3) hR2 hX2 (by decide) (.int .i64 Z)
  have hK2 := ((HK1.out.trans (radd_keep HROW.out HGR.out)).setCell (p := ⟨b, 2, none⟩) HW2.out hBb (.slice (some ⟨g', 0, none⟩) (ps.length + 1) cap')).setCell (p := ⟨b, 3, none⟩) hX2 hBb (.int .i64 Z)
  have HX := Lib.hid hX3
  have HRW := Lib.hid hR3
  have HKK := Lib.hid hK2
  clear hX2 hX3 hR2 hR3 hK2
  go_ret2
  refine .inl ⟨HEE.out, rfl, ⟨hBb, .slice (some ⟨g', 0, none⟩) (ps.length + 1) cap', ?_, ?_⟩, HKK.out⟩
  · rw [Int.toNat_natCast, HZ.out]; exact HX.out
  · rw [List.length_append, List.length_singleton, ints_snoc]; exact HRW.out

end Go.Proofs.Ytmeefecpnfclpaa
