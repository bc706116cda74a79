/- frame.frames, frame.Scan. -/
import Derived.Test.YtkgcjelipllpdaaScan
import Derived.Maps.AppendAt
namespace Go.Proofs.Ytkgcjelipllpdaa
open Go.RowKit Go.Shelf
attribute [local go_sem] Oper.semAt_some

set_option maxHeartbeats 400000 in
theorem frames_any (s : ByteArray) (a : Int) (f : Int) (w : World) :
    Calls Try.prog 33 #[.string s, .int .i64 a, .int .i64 f] w
      fun e w' => e = .returned (.func (.func 47) #[] #[.pointer (some ⟨w.heap.size, 0, none⟩), .pointer (some ⟨w.heap.size + 1, 0, none⟩), .pointer (some ⟨w.heap.size + 1 + 1, 0, none⟩)]) ∧
        ((w.alloc (.cells #[.string s] 9)).alloc (.cells #[.int .i64 a] 3)).alloc (.cells #[.int .i64 f] 2) = w' := by
  go_enter Try.func33, Try.ntmps33
  go_wp2_with fail
  go_ret
  exact ⟨rfl, rfl⟩

/-- the cells of the frames at these places -/
def frRow (s : ByteArray) (xs : List Nat) : List Value := xs.flatMap fun a => (frCells (fQ s.data.toList a) (bs (sl s.data.toList (a + 16) (fN s.data.toList a))) a).toList
theorem frRow_snoc (s : ByteArray) (xs : List Nat) (a : Nat) : frRow s (xs ++ [a]) = frRow s xs ++ (frCells (fQ s.data.toList a) (bs (sl s.data.toList (a + 16) (fN s.data.toList a))) a).toList := by unfold frRow; simp
/-- where the last frame ends -/
def goodP (l : List UInt8) (a : Nat) (xs : List Nat) : Nat := xs.foldl (fun _ x => fNext l x) a
theorem goodP_snoc (l : List UInt8) (a : Nat) (xs : List Nat) (x : Nat) : goodP l a (xs ++ [x]) = fNext l x := by unfold goodP; simp
theorem infoF : (Try.prog.info? 24).map (fun i => (i.zero, i.size, i.bytes)) = some (some (.agg #[.int .i64 0, .string ⟨#[]⟩, .int .i64 0]), 3, 32) := by kernel_rfl

/-- between two rounds -/
def scI (s : ByteArray) (a0 : Nat) (w : World) (xs : List Nat) (W : World) : Prop :=
  ∃ oa cap, W.heap[w.heap.size]? = some (.cells #[.slice oa xs.length cap] 31) ∧ W.ownsRow (w.heap.size + 5) 24 3 (.slice oa xs.length cap) xs.length (frRow s xs) ∧
    W.heap[w.heap.size + 1]? = some (.cells #[.int .i64 (goodP s.data.toList a0 xs)] 3) ∧ Below w.heap.size w W

theorem ownsRow_keep {B : Nat} {e : TypeId} {k : Nat} {v : Value} {n : Nat} {xs : List Value} {w w' : World} (h : w.ownsRow B e k v n xs) (hb : ∀ g o, B ≤ g → w.heap[g]? = some o → o.isCells = true → w'.heap[g]? = some o) : w'.ownsRow B e k v n xs :=
  ⟨h.1, h.2.imp id (fun ⟨g, c, cur, e1, e2, e3, e4⟩ => ⟨g, c, cur, e1, e2, hb _ _ e2 e3 rfl, e4⟩)⟩

theorem scI_keep {s : ByteArray} {a0 : Nat} {w : World} {xs : List Nat} {W W' : World} (h : scI s a0 w xs W) (hk : KeepX (fun k => k = w.heap.size + 2 + 1 ∨ k = w.heap.size + 2 + 2) W W') : scI s a0 w xs W' := by
  obtain ⟨oa, cap, h1, h2, h3, h4⟩ := h
  have l1 := (Array.getElem?_eq_some_iff.1 h1).1
  have l3 := (Array.getElem?_eq_some_iff.1 h3).1
  refine ⟨oa, cap, (hk.block _ l1 (by omega)).trans h1, ownsRow_keep h2 (fun g o hg ho _ => (hk.block _ (Array.getElem?_eq_some_iff.1 ho).1 (by omega)).trans ho), (hk.block _ l3 (by omega)).trans h3,
    ⟨hk.os.trans h4.os, hk.tape.trans h4.tape, hk.output.trans h4.output, Nat.le_trans h4.size hk.size, fun k hk' => (hk.block k (by have := h4.size; omega) (by omega)).trans (h4.block k hk')⟩⟩
theorem scI_put {s : ByteArray} {a0 : Nat} {w : World} {xs : List Nat} {W : World} {l : Nat} {o : Obj} (h : scI s a0 w xs W) (hl : w.heap.size + 5 ≤ l) (ho : ∃ o', W.heap[l]? = some o' ∧ o'.isCells = false) : scI s a0 w xs (W.putObj l o) := by
  obtain ⟨oa, cap, h1, h2, h3, h4⟩ := h
  obtain ⟨o', ho1, ho2⟩ := ho
  refine ⟨oa, cap, (World.putObj_heap_other (by omega)).trans h1, ownsRow_keep h2 (fun g o2 hg ho3 ho4 => (World.putObj_heap_other (fun e => by subst e; rw [ho1] at ho3; cases ho3; rw [ho2] at ho4; cases ho4)).trans ho3),
    (World.putObj_heap_other (by omega)).trans h3, ?_⟩
  have hg := grownBy_putObj' W l o
  exact h4.grown hg h4.size (fun k e => by cases e; omega)

theorem sc_arm {w W2 w1 : World} {ob : Obj} {k cap : Nat} {oa : Option Addr} {xs ys : List Value} {good : Int} {v' : Value}
    (h1 : W2.heap[w.heap.size]? = some (.cells #[.slice oa k cap] 31)) (h2 : W2.ownsRow (w.heap.size + 5) 24 3 (.slice oa k cap) k xs) (h3 : W2.heap[w.heap.size + 1]? = some (.cells #[.int .i64 good] 3)) (h4 : Below w.heap.size w W2)
    (hsz : w.heap.size + 5 ≤ W2.heap.size) (hown : w1.ownsRow (w.heap.size + 5) 24 3 v' (k + 1) ys) (hg : (W2.alloc ob).grownBy w1 (Value.ownBlock (.slice oa k cap))) :
    ∃ g' cap', v' = .slice (some ⟨g', 0, none⟩) (k + 1) cap' ∧ w1.heap[w.heap.size]? = some (.cells #[.slice oa k cap] 31) ∧ w1.heap[w.heap.size + 1]? = some (.cells #[.int .i64 good] 3) ∧
      KeepsOthers W2 w1 ∧ (∀ i, i < w.heap.size + 5 → w1.heap[i]? = W2.heap[i]?) ∧ Below w.heap.size w w1 := by
  obtain ⟨g', cap', rfl⟩ := ownsRow_succ hown
  have hlow : ∀ i, i < w.heap.size + 5 → w1.heap[i]? = W2.heap[i]? := by
    intro i hi
    rw [hg.block i (by simp; omega) (fun e => by have := (h2.lt i e.symm).1; omega)]
    exact heap_alloc_old _ _ _ (by omega)
  refine ⟨g', cap', rfl, (hlow _ (by omega)).trans h1, (hlow _ (by omega)).trans h3, ?_, hlow, ?_⟩
  · refine (KeepsOthers.alloc W2 ob).trans (KeepsOthers.of_grownBy hg ?_)
    intro j o hj ho
    rcases h2.2 with ⟨hv, _⟩ | ⟨g, c, cur, hv, hgB, hcur, _⟩
    · cases hv; simp [Value.ownBlock] at hj
    · cases hv
      simp [Value.ownBlock] at hj
      subst hj
      rw [heap_alloc_old _ _ _ (Array.getElem?_eq_some_iff.1 hcur).1, hcur] at ho
      cases ho; rfl
  · refine h4.trans ⟨hg.os, hg.tape, hg.output, ?_, fun i hi => hlow i (by omega)⟩
    have := hg.size
    simp at this
    omega

theorem rows5 (w : World) (A B C D E : Obj) : (((((w.alloc A).alloc B).alloc C).alloc D).alloc E).heap[w.heap.size]? = some A ∧ (((((w.alloc A).alloc B).alloc C).alloc D).alloc E).heap[w.heap.size + 1]? = some B ∧
    (((((w.alloc A).alloc B).alloc C).alloc D).alloc E).heap[w.heap.size + 2]? = some C ∧ (((((w.alloc A).alloc B).alloc C).alloc D).alloc E).heap[w.heap.size + 3]? = some D ∧ (((((w.alloc A).alloc B).alloc C).alloc D).alloc E).heap[w.heap.size + 4]? = some E := by
  refine ⟨?_, ?_, ?_, ?_, ?_⟩
  · rw [heap_alloc_old _ _ _ (by simp only [World.size_alloc]; omega), heap_alloc_old _ _ _ (by simp only [World.size_alloc]; omega), heap_alloc_old _ _ _ (by simp only [World.size_alloc]; omega), heap_alloc_old _ _ _ (by simp), heap_alloc_new]
  · rw [heap_alloc_old _ _ _ (by simp only [World.size_alloc]; omega), heap_alloc_old _ _ _ (by simp only [World.size_alloc]; omega), heap_alloc_old _ _ _ (by simp)]; exact heap_alloc2_new _ _ _
  · rw [heap_alloc_old _ _ _ (by simp only [World.size_alloc]; omega), heap_alloc_old _ _ _ (by simp)]; have := heap_alloc_new ((w.alloc A).alloc B) C; simpa using this
  · rw [heap_alloc_old _ _ _ (by simp)]; have := heap_alloc_new (((w.alloc A).alloc B).alloc C) D; simpa using this
  · have := heap_alloc_new ((((w.alloc A).alloc B).alloc C).alloc D) E; simpa using this

theorem cell_three_new (w : World) (q : Nat) (y : ByteArray) (x : Int) : ∀ j u, (frCells q y x).toList[j]? = some u → (w.alloc (.cells #[.int .i64 q, .string y, .int .i64 x] 24)).cell? ((⟨w.heap.size, 0, none⟩ : Addr).add j) = some u := by
  intro j u hj
  have : (⟨w.heap.size, 0, none⟩ : Addr).add j = ⟨w.heap.size, j, none⟩ := by unfold Addr.add; split <;> simp_all
  rw [this, World.cell?_alloc_new]
  simpa [frCells] using hj

theorem results_scan (tmps : Array Value) (w : World) (g : Nat) (u v : Value) (hp : tmps.getD 6 undef = .pointer (some ⟨g, 0, none⟩)) (hq : tmps.getD 7 undef = .pointer (some ⟨g + 1, 0, none⟩))
    (hu : w.heap[g]? = some (.cells #[u] 31)) (hv : w.heap[g + 1]? = some (.cells #[v] 3)) :
    (results Try.f12 tmps).run Try.prog w = .ok (.tuple #[u, v]) w := by
  have hp' : tmps[6]?.getD undef = .pointer (some ⟨g, 0, none⟩) := by simpa using hp
  have hq' : tmps[7]?.getD undef = .pointer (some ⟨g + 1, 0, none⟩) := by simpa using hq
  have cu : w.cell? ⟨g, 0, none⟩ = some u := by rw [cell_of_row _ _ _ _ _ _ hu]; rfl
  have cv : w.cell? ⟨g + 1, 0, none⟩ = some v := by rw [cell_of_row _ _ _ _ _ _ hv]; rfl
  simp [results, hp', hq', asAddr, loadVar, go_sem, cu, cv]

theorem ownsRow_mono {B B' : Nat} {e : TypeId} {k : Nat} {v : Value} {n : Nat} {xs : List Value} {w : World} (h : w.ownsRow (B + B') e k v n xs) : w.ownsRow B e k v n xs :=
  ⟨h.1, h.2.imp id (fun ⟨g, c, cur, e1, e2, e3, e4⟩ => ⟨g, c, cur, e1, by omega, e3, e4⟩)⟩

/-- THE ARM: one frame is appended -/
theorem sapp {F : Fence} {n : Nat} {w W2 : World} {ops : Array Oper} {rest : List Oper} {o : Oper} {a : Act} {Q : Exit → Act → World → Prop} {k cap : Nat} {oa : Option Addr} {xs : List Value} {good : Int}
    (h1 : W2.heap[w.heap.size]? = some (.cells #[.slice oa k cap] 31)) (h2 : W2.ownsRow (w.heap.size + 5) 24 3 (.slice oa k cap) k xs) (h3 : W2.heap[w.heap.size + 1]? = some (.cells #[.int .i64 good] 3)) (h4 : Below w.heap.size w W2)
    (hsz : w.heap.size + 5 ≤ W2.heap.size) (hk : k ≤ 1000001) (hgd : o.guard = none) (s x : Operand) (ho : o.op = .call { callee := .builtin .append, args := #[s, x], argTypes := #[31, 31] })
    (hs : a.eval s = .slice oa k cap) (hx : a.eval x = .slice (some ⟨W2.heap.size, 0, none⟩) 1 1) (q : Nat) (y : ByteArray) (z : Int)
    (hK : ∀ g' cap' w1, w1.ownsRow (w.heap.size + 5) 24 3 (.slice (some ⟨g', 0, none⟩) (k + 1) cap') (k + 1) (xs ++ (frCells q y z).toList) → w1.heap[w.heap.size]? = some (.cells #[.slice oa k cap] 31) →
      w1.heap[w.heap.size + 1]? = some (.cells #[.int .i64 good] 3) → KeepsOthers W2 w1 → (∀ i, i < w.heap.size + 5 → w1.heap[i]? = W2.heap[i]?) → Below w.heap.size w w1 →
      w1.cell? ⟨w.heap.size, 0, none⟩ = some (.slice oa k cap) → w1.frozen? ⟨w.heap.size, 0, none⟩ = false → w1.cell? ⟨w.heap.size + 1, 0, none⟩ = some (.int .i64 good) → w1.frozen? ⟨w.heap.size + 1, 0, none⟩ = false →
      wpListIn F n Try.prog ops Q rest (a.put o.dst (.slice (some ⟨g', 0, none⟩) (k + 1) cap')) w1) :
    wpListIn F n Try.prog ops Q (o :: rest) a (W2.alloc (.cells #[.int .i64 q, .string y, .int .i64 z] 24)) := by
  obtain ⟨i0, hi, hz0, hz1, hz2⟩ := info_parts infoF
  refine wpListIn_append_own _ hgd s x 31 ho (w.heap.size + 5) 24 i0 _ 3 32 Try.underlying31 hi hz0 hz1 hz2 rfl (by decide) (.slice oa k cap) k xs hs (h2.alloc _) ⟨W2.heap.size, 0, none⟩ 1 1 (frCells q y z).toList hx rfl
    (cell_three_new _ _ _ _) (by simp [frCells, Value.oneCell']) (by unfold maxLen; omega) (by omega) (by simp; omega) ?_
  intro v' w1 hown hg _
  obtain ⟨g', cap', rfl, r1, r3, hko, hlow, hbel⟩ := sc_arm h1 h2 h3 h4 hsz hown hg
  refine hK g' cap' w1 hown r1 r3 hko hlow hbel ?_ (frozen_of_row _ _ _ _ _ r1) ?_ (frozen_of_row _ _ _ _ _ r3)
  · rw [cell_of_row _ _ _ _ _ _ r1]; rfl
  · rw [cell_of_row _ _ _ _ _ _ r3]; rfl

set_option maxHeartbeats 2000000 in
theorem scan_ok (s : ByteArray) (a : Nat) (f : Int) (w : World) (hs : s.size ≤ 1000000) (ha : a ≤ s.size) :
    CallsIn Fence.wide 3 Try.prog 12 #[.string s, .int .i64 a, .int .i64 f] w
      fun e w' => ∃ v xs, xs = scanP s.data.toList (s.size + 1) a f ∧ e = .returned (.tuple #[v, .int .i64 (goodP s.data.toList a xs)]) ∧ w'.ownsRow w.heap.size 24 3 v xs.length (frRow s xs) ∧ Below w.heap.size w w' := by
  have d1 : decide ((a : Int) < 0) = false := decide_eq_false (by omega)
  have d2 : decide (s.size < a) = false := decide_eq_false (by omega)
  refine callsIn_of_wp_marks Try.func12 rfl trivial ?_
  simp only [Try.ntmps12, List.size_toArray, List.length_cons, List.length_nil, Nat.reduceAdd, Nat.reduceSub, Array.replicate_succ, Array.replicate_zero, List.push_toArray, List.append_toArray, List.nil_append, List.cons_append]
  gi_wp2
  refine ⟨trivial, (callsIn_wide.2 (frames_any s a f _)).mono ?_⟩
  rintro e w' ⟨rfl, rfl⟩
  simp only [World.size_alloc]
  obtain ⟨W0, eW⟩ : ∃ W0, ((((w.alloc (.cells #[.slice none 0 0] 31)).alloc (.cells #[.int .i64 a] 3)).alloc (.cells #[.string s] 9)).alloc (.cells #[.int .i64 a] 3)).alloc (.cells #[.int .i64 f] 2) = W0 := ⟨_, rfl⟩
  have hz0 : W0.heap.size = w.heap.size + 5 := by rw [← eW]; simp
  obtain ⟨hr0, hr1, hr2, hr3, hr4⟩ := rows5 w (.cells #[.slice none 0 0] 31) (.cells #[.int .i64 a] 3) (.cells #[.string s] 9) (.cells #[.int .i64 a] 3) (.cells #[.int .i64 f] 2)
  rw [eW] at hr0 hr1 hr2 hr3 hr4
  have hb0 : Below w.heap.size w W0 := by rw [← eW]; exact (((((Below.refl _ _).alloc (Nat.le_refl _) _).alloc (by simp) _).alloc (by simp; omega) _).alloc (by simp; omega) _).alloc (by simp; omega) _
  rw [eW]
  clear eW
  gi_wp2
  refine wp_rangeFunc_keep (n := 2) (m := 1) (gf := 47) (lb := #[.pointer (some ⟨w.heap.size + 2, 0, none⟩), .pointer (some ⟨w.heap.size + 2 + 1, 0, none⟩), .pointer (some ⟨w.heap.size + 2 + 2, 0, none⟩)]) rfl (enters_of Try.func47 (by kernel_rfl) rfl)
    (encF s) (fun _ => rfl) (fun k => k = w.heap.size + 2 + 1 ∨ k = w.heap.size + 2 + 2) (fun k => k = w.heap.size + 2 ∨ k = w.heap.size + 2 + 1 ∨ k = w.heap.size + 2 + 2) (fun k h => by omega) (fun k h => by omega)
    (scI s a w) (fun xs => xs = scanP s.data.toList (s.size + 1) a f) (fun pre _ => pre.length ≤ s.size)
    (fun _ _ _ hi _ hk => scI_keep hi hk) (fun _ _ _ _ hi hl _ ho => scI_put hi (by omega) ho) ?start ?seq ?round ?done
  case start =>
    intro W hW
    refine ⟨none, 0, (hW.block _ (by omega)).trans hr0, World.ownsRow_nil _ _ _ _, (hW.block _ (by omega)).trans hr1, hb0.trans (hW.mono (by omega))⟩
  case seq =>
    intro l J W hW hJ hY hJ0
    exact frames1_in 2 s a f hs ha l (w.heap.size + 2) J hJ hY W ((hW.block _ (by omega)).trans hr2) ((hW.block _ (by omega)).trans hr3) ((hW.block _ (by omega)).trans hr4) hJ0
  case done =>
    rintro D xs W hS ⟨oa, cap, h1, h2, h3, h4⟩ hD hd
    have c1 : W.cell? ⟨w.heap.size, 0, none⟩ = some (.slice oa xs.length cap) := by rw [cell_of_row _ _ _ _ _ _ h1]; rfl
    have c3 : W.cell? ⟨w.heap.size + 1, 0, none⟩ = some (.int .i64 (goodP s.data.toList a xs)) := by rw [cell_of_row _ _ _ _ _ _ h3]; rfl
    have f1 : W.frozen? ⟨w.heap.size, 0, none⟩ = false := frozen_of_row _ _ _ _ _ h1
    have f3 : W.frozen? ⟨w.heap.size + 1, 0, none⟩ = false := frozen_of_row _ _ _ _ _ h3
    gi_wp2
    refine wpIn_wide.2 ?_
    go_region
    all_goals gi_wp2
    subst hS
    obtain ⟨xs, hxs⟩ : ∃ xs, scanP s.data.toList (s.size + 1) a f = xs := ⟨_, rfl⟩
    rw [hxs] at h1 h2 h3 ⊢
    have n1 := heap_setCell_same W w.heap.size 0 _ _ (.slice oa xs.length cap) h1
    have n3 : (W.setCell ⟨w.heap.size, 0, none⟩ (.slice oa xs.length cap)).heap[w.heap.size + 1]? = _ := (heap_setCell_ne _ _ _ (by show w.heap.size + 1 ≠ w.heap.size; omega)).trans h3
    have n3' := heap_setCell_same _ (w.heap.size + 1) 0 _ _ (.int .i64 (goodP s.data.toList a xs)) n3
    have n1' : ((W.setCell ⟨w.heap.size, 0, none⟩ (.slice oa xs.length cap)).setCell ⟨w.heap.size + 1, 0, none⟩ (.int .i64 (goodP s.data.toList a xs))).heap[w.heap.size]? = some (.cells #[.slice oa xs.length cap] 31) :=
      (heap_setCell_ne _ _ _ (by show w.heap.size ≠ w.heap.size + 1; omega)).trans n1
    have hown := ownsRow_setCell_below (ownsRow_setCell_below h2 (a := ⟨w.heap.size, 0, none⟩) (by show w.heap.size < w.heap.size + 5; omega) (.slice oa xs.length cap)) (a := ⟨w.heap.size + 1, 0, none⟩) (by show w.heap.size + 1 < w.heap.size + 5; omega) (.int .i64 (goodP s.data.toList a xs))
    have hbel := (h4.setCell (p := ⟨w.heap.size, 0, none⟩) (Nat.le_refl _) (.slice oa xs.length cap)).setCell (p := ⟨w.heap.size + 1, 0, none⟩) (by show w.heap.size ≤ w.heap.size + 1; omega) (.int .i64 (goodP s.data.toList a xs))
    have hdd : ((W.setCell ⟨w.heap.size, 0, none⟩ (.slice oa xs.length cap)).setCell ⟨w.heap.size + 1, 0, none⟩ (.int .i64 (goodP s.data.toList a xs))).heap[D]? = some (.deferred (some [])) :=
      (heap_setCell_ne _ _ _ (by show D ≠ w.heap.size + 1; omega)).trans ((heap_setCell_ne _ _ _ (by show D ≠ w.heap.size; omega)).trans hd)
    have hbD := hbel.drew
    generalize hWe : ((W.setCell ⟨w.heap.size, 0, none⟩ (.slice oa xs.length cap)).setCell ⟨w.heap.size + 1, 0, none⟩ (.int .i64 (goodP s.data.toList a xs))) = W5 at *
    refine ⟨by simp, .inl ⟨_, _, rfl, run_takeDeferred (w := W5.drew) hdd, ?_⟩⟩
    refine ⟨.tuple #[.slice oa xs.length cap, .int .i64 (goodP s.data.toList a xs)], results_scan _ _ w.heap.size _ _ rfl rfl ((World.putObj_heap_other (by omega)).trans n1') ((World.putObj_heap_other (by omega)).trans n3'), ?_⟩
    refine ⟨_, xs, rfl, rfl, ?_, ?_⟩
    · exact ownsRow_mono (ownsRow_keep hown (fun g o2 hg ho3 ho4 => (World.putObj_heap_other (fun e => by subst e; have hdd' := hdd; rw [ho3] at hdd'; cases hdd'; cases ho4)).trans ho3))
    · have hg := grownBy_putObj' W5.drew D (.deferred none)
      exact hbD.grown hg hbD.size (fun k e => by cases e; omega)
  case round =>
    rintro l pre x W hI hv hl hlt K hK
    simp only [encF, frAt, frV, frCells]
    gi_wp2
    refine hK _ _ (KeepsOthers.alloc _ _) ?_
    clear hK
    intro o
    obtain ⟨q, eq⟩ : ∃ q, fQ s.data.toList x = q := ⟨_, rfl⟩
    obtain ⟨y, ey⟩ : ∃ y, bs (sl s.data.toList (x + 16) (fN s.data.toList x)) = y := ⟨_, rfl⟩
    obtain ⟨m, em⟩ : ∃ m, fNext s.data.toList x = m := ⟨_, rfl⟩
    rw [eq, ey, em]
    obtain ⟨W2, eW2⟩ : ∃ W2, (W.alloc (.cells #[.int .i64 q, .string y, .int .i64 x] 24)).putObj l o = W2 := ⟨_, rfl⟩
    obtain ⟨o', ho1, ho2⟩ := hlt
    have hll := (Array.getElem?_eq_some_iff.1 ho1).1
    have hI2 : scI s a w pre W2 := by
      rw [← eW2]
      exact scI_put (scI_keep hI (KeepX.of_below ((Below.refl _ _).alloc (Nat.le_refl _) _))) (by omega) ⟨o', (heap_alloc_old _ _ _ hll).trans ho1, ho2⟩
    have hfr : W2.heap[W.heap.size]? = some (.cells (frCells q y x) 24) := by
      rw [← eW2]; exact (World.putObj_heap_other (by omega)).trans (heap_alloc_new _ _)
    have hzk : ∀ k, k < w.heap.size + 5 → W2.heap[k]? = W.heap[k]? := by
      intro k hk
      rw [← eW2]; exact (World.putObj_heap_other (by omega)).trans (heap_alloc_old _ _ _ (by omega))
    have hs2 : W2.heap.size = W.heap.size + 1 := by rw [← eW2]; simp
    rw [eW2]
    clear eW2 hI ho1 ho2
    obtain ⟨oa, cap, h1, h2, h3, h4⟩ := hI2
    have c1 : W2.cell? ⟨w.heap.size, 0, none⟩ = some (.slice oa pre.length cap) := by rw [cell_of_row _ _ _ _ _ _ h1]; rfl
    obtain ⟨k0, k1, k2, _, _, _⟩ := fr_cells hfr
    have H1 := Lib.hid h1
    have H2 := Lib.hid h2
    have H3 := Lib.hid h3
    have H4 := Lib.hid h4
    have HZ := Lib.hid hzk
    have HF := Lib.hid hfr
    have HS2 := Lib.hid hs2
    have hpl : pre.length + 1 ≤ 1000001 := by omega
    have HSZ := Lib.hid (show w.heap.size + 5 ≤ W2.heap.size by omega)
    clear h1 h2 h3 h4 hzk hfr hs2
    gi_wp2_with (gi_at_builtin; refine sapp H1.out H2.out H3.out H4.out HSZ.out (by omega) rfl _ _ rfl rfl rfl q y x ?_; intro g' cap' w1 hown r1 r3 hko hlow hbel c1' f1' c3' f3')
    have hlen : (pre ++ [x]).length = pre.length + 1 := by simp
    refine ⟨hko.trans ((KeepsOthers.setCell _ _ _).trans (KeepsOthers.setCell _ _ _)), ?_, ?_⟩
    · intro k hk
      exact (heap_setCell_ne _ _ _ (by show k ≠ w.heap.size + 1; omega)).trans ((heap_setCell_ne _ _ _ (by show k ≠ w.heap.size; omega)).trans ((hlow k (by omega)).trans (HZ.out k (by omega))))
    · have n1 := heap_setCell_same w1 w.heap.size 0 _ _ (.slice (some ⟨g', 0, none⟩) (pre.length + 1) cap') r1
      have n3 : (w1.setCell ⟨w.heap.size, 0, none⟩ (.slice (some ⟨g', 0, none⟩) (pre.length + 1) cap')).heap[w.heap.size + 1]? = _ := (heap_setCell_ne _ _ _ (by show w.heap.size + 1 ≠ w.heap.size; omega)).trans r3
      have n3' := heap_setCell_same _ (w.heap.size + 1) 0 _ _ (.int .i64 m) n3
      refine ⟨some ⟨g', 0, none⟩, cap', ?_, ?_, ?_, ?_⟩
      · rw [hlen]; exact (heap_setCell_ne _ _ _ (by show w.heap.size ≠ w.heap.size + 1; omega)).trans n1
      · rw [hlen, frRow_snoc, eq, ey]
        exact ownsRow_setCell_below (ownsRow_setCell_below hown (a := ⟨w.heap.size, 0, none⟩) (by show w.heap.size < w.heap.size + 5; omega) _) (a := ⟨w.heap.size + 1, 0, none⟩) (by show w.heap.size + 1 < w.heap.size + 5; omega) _
      · rw [goodP_snoc, em]; exact n3'
      · exact (hbel.setCell (p := ⟨w.heap.size, 0, none⟩) (Nat.le_refl _) _).setCell (p := ⟨w.heap.size + 1, 0, none⟩) (by show w.heap.size ≤ w.heap.size + 1; omega) _

set_option maxHeartbeats 2000000 in
theorem scan_out (s : ByteArray) (a : Int) (f : Int) (w : World) (h : a < 0 ∨ (s.size : Int) < a) :
    CallsIn Fence.wide 3 Try.prog 12 #[.string s, .int .i64 a, .int .i64 f] w
      fun e w' => e = .returned (.tuple #[.slice none 0 0, .int .i64 0]) ∧ Below w.heap.size w w' := by
  by_cases h1 : a < 0
  · have d1 : decide (a < 0) = true := decide_eq_true h1
    refine callsIn_of_wp_marks Try.func12 rfl trivial ?_
    simp only [Try.ntmps12, List.size_toArray, List.length_cons, List.length_nil, Nat.reduceAdd, Nat.reduceSub, Array.replicate_succ, Array.replicate_zero, List.push_toArray, List.append_toArray, List.nil_append, List.cons_append]
    gi_wp2
    exact ⟨.tuple #[.slice none 0 0, .int .i64 0], results_scan _ _ w.heap.size _ _ rfl rfl ((heap_alloc_old _ _ _ (by simp)).trans (heap_alloc_new _ _)) (heap_alloc2_new _ _ _), rfl, ((Below.refl _ _).alloc (Nat.le_refl _) _).alloc (by simp) _⟩
  · have d1 : decide (a < 0) = false := decide_eq_false h1
    have d2 : decide ((s.size : Int) < a) = true := decide_eq_true (by omega)
    refine callsIn_of_wp_marks Try.func12 rfl trivial ?_
    simp only [Try.ntmps12, List.size_toArray, List.length_cons, List.length_nil, Nat.reduceAdd, Nat.reduceSub, Array.replicate_succ, Array.replicate_zero, List.push_toArray, List.append_toArray, List.nil_append, List.cons_append]
    gi_wp2
    exact ⟨.tuple #[.slice none 0 0, .int .i64 0], results_scan _ _ w.heap.size _ _ rfl rfl ((heap_alloc_old _ _ _ (by simp)).trans (heap_alloc_new _ _)) (heap_alloc2_new _ _ _), rfl, ((Below.refl _ _).alloc (Nat.le_refl _) _).alloc (by simp) _⟩

/-- the places that are scanned; where the last one ends -/
def scanL (l : List UInt8) (a f : Int) : List Nat := if a < 0 ∨ (l.length : Int) < a then [] else scanP l (l.length + 1) a.toNat f
def scanG (l : List UInt8) (a f : Int) : Nat := if a < 0 ∨ (l.length : Int) < a then 0 else goodP l a.toNat (scanL l a f)
theorem scan_any (s : ByteArray) (a f : Int) (w : World) (hs : s.size ≤ 1000000) :
    Calls Try.prog 12 #[.string s, .int .i64 a, .int .i64 f] w
      fun e w' => ∃ v, e = .returned (.tuple #[v, .int .i64 (scanG s.data.toList a f)]) ∧ w'.ownsRow w.heap.size 24 3 v (scanL s.data.toList a f).length (frRow s (scanL s.data.toList a f)) ∧ Below w.heap.size w w' := by
  have hl : s.data.toList.length = s.size := rfl
  refine (callsIn_wide (n := 3)).1 ?_
  by_cases h : a < 0 ∨ (s.size : Int) < a
  · refine (scan_out s a f w h).mono ?_
    rintro e w' ⟨rfl, hb⟩
    unfold scanG scanL
    rw [hl, if_pos h, if_pos h]
    exact ⟨.slice none 0 0, rfl, World.ownsRow_nil _ _ _ _, hb⟩
  · obtain ⟨n, rfl⟩ : ∃ n : Nat, a = n := ⟨a.toNat, by omega⟩
    refine (scan_ok s n f w hs (by omega)).mono ?_
    rintro e w' ⟨v, xs, rfl, rfl, ho, hb⟩
    unfold scanG scanL
    rw [hl, if_neg h, if_neg h, Int.toNat_natCast]
    exact ⟨v, rfl, ho, hb⟩

end Go.Proofs.Ytkgcjelipllpdaa
