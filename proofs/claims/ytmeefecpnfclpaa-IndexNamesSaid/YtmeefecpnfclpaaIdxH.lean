/- Walks over package index: read, Get. -/
import Derived.Test.YtmeefecpnfclpaaIdxG
namespace Go.Proofs.Ytmeefecpnfclpaa
open Go.RowKit Go.Shelf
attribute [local go_sem] Oper.semAt_some

set_option maxHeartbeats 400000 in
theorem read_fn (s : ByteArray) (q a : Int) (w : World) :
    Calls Try.prog 33 #[.string s, .agg #[.int .i64 q, .int .i64 a]] w
      fun e w' => e = .returned (.func (.func 66) #[] #[.pointer (some ⟨w.heap.size + 1, 0, none⟩), .pointer (some ⟨w.heap.size, 0, none⟩)]) ∧
        (w.alloc (.cells #[.string s] 9)).alloc (.cells #[.int .i64 q, .int .i64 a] 44) = w' := by
  go_enter Try.func33, Try.ntmps33
  go_wp2_with fail
  go_ret
  exact ⟨rfl, rfl⟩

/-- a row of what is read has an error at its end -/
theorem rd_last (l : List UInt8) : ∀ (k a q : Nat), 1 ≤ k → (a ≤ l.length → l.length < a + k) → ∃ y ∈ rdSeq l k a q, y.2 ≠ 0 := by
  intro k
  induction k with
  | zero => intro a q h; omega
  | succ k ih =>
    intro a q _ h
    rw [rdSeq_succ]
    by_cases h1 : fE l (min a l.length) = 0
    · rw [if_neg (not_not_intro h1)]
      by_cases h2 : fQ l (min a l.length) = q
      · rw [if_neg (not_not_intro h2)]
        obtain ⟨g1, g2, g3, g4⟩ := fE_zero h1
        have hma : min a l.length = a := by omega
        rw [hma] at g1 g2 g3 ⊢
        have hn : fNext l a = a + 16 + fN l a := rfl
        obtain ⟨y, hy, hy2⟩ := ih (fNext l a) (q + 1) (by omega) (fun _ => by omega)
        exact ⟨y, List.mem_cons_of_mem _ hy, hy2⟩
      · rw [if_pos h2]; exact ⟨_, List.mem_cons_self .., by show (4 : Int) ≠ 0; omega⟩
    · rw [if_pos h1]; exact ⟨_, List.mem_cons_self .., by show ((fE l (min a l.length) : Nat) : Int) ≠ 0; omega⟩
/-- what was read last -/
theorem rd_get (l : List UInt8) (x : ByteArray × Int) : ∀ (pre : List (ByteArray × Int)) (k a q : Nat), (pre ++ [x]) <+: rdSeq l k a q → (∀ y ∈ pre, y.2 = 0) →
    (x.2 ≠ 0 → ∀ left, pre.length ≤ left → (getE l left a q : Int) = x.2) ∧ (x.2 = 0 → getE l pre.length a q = 0 ∧ x.1 = payB l (getA l pre.length a)) := by
  intro pre
  induction pre with
  | nil =>
    intro k a q hp _
    cases k with
    | zero => obtain ⟨t, ht⟩ := hp; cases ht
    | succ k =>
      rw [rdSeq_succ] at hp
      have hge : ∀ left, fE l (min a l.length) ≠ 0 → getE l left a q = fE l (min a l.length) := fun left h => by unfold getE; rw [if_pos h]
      by_cases h1 : fE l (min a l.length) = 0
      · rw [if_neg (not_not_intro h1)] at hp
        by_cases h2 : fQ l (min a l.length) = q
        · rw [if_neg (not_not_intro h2)] at hp
          obtain ⟨t, ht⟩ := hp
          have hx : x = (payB l (min a l.length), 0) := by injection ht
          subst hx
          refine ⟨fun h => absurd rfl h, fun _ => ⟨?_, rfl⟩⟩
          show getE l 0 a q = 0
          unfold getE; rw [if_neg (not_not_intro h1), if_neg (not_not_intro h2)]
        · rw [if_pos h2] at hp
          obtain ⟨t, ht⟩ := hp
          have hx : x = (payB l (min a l.length), 4) := by injection ht
          subst hx
          refine ⟨fun _ left _ => ?_, fun h => by cases h⟩
          have : getE l left a q = 4 := by unfold getE; rw [if_neg (not_not_intro h1), if_pos h2]
          rw [this]; rfl
      · rw [if_pos h1] at hp
        obtain ⟨t, ht⟩ := hp
        have hx : x = (⟨#[]⟩, (fE l (min a l.length) : Int)) := by injection ht
        subst hx
        refine ⟨fun _ left _ => by rw [hge left h1], fun h => ?_⟩
        have : ((fE l (min a l.length) : Nat) : Int) = 0 := h
        omega
  | cons y pre ih =>
    intro k a q hp hall
    cases k with
    | zero => obtain ⟨t, ht⟩ := hp; cases ht
    | succ k =>
      rw [rdSeq_succ] at hp
      have hy0 := hall y (List.mem_cons_self ..)
      by_cases h1 : fE l (min a l.length) = 0
      · rw [if_neg (not_not_intro h1)] at hp
        by_cases h2 : fQ l (min a l.length) = q
        · rw [if_neg (not_not_intro h2)] at hp
          rw [List.cons_append] at hp
          have hp2 := (List.cons_prefix_cons.1 hp).2
          obtain ⟨e1, e2⟩ := ih k _ _ hp2 (fun z hz => hall z (List.mem_cons_of_mem _ hz))
          have hstep : ∀ left, getE l (left + 1) a q = getE l left (fNext l (min a l.length)) (q + 1) := by
            intro left
            rw [getE, if_neg (not_not_intro h1), if_neg (not_not_intro h2)]
          refine ⟨fun hx left hl => ?_, fun hx => ?_⟩
          · obtain ⟨left, rfl⟩ : ∃ j, left = j + 1 := ⟨left - 1, by rw [List.length_cons] at hl; omega⟩
            rw [hstep]; exact e1 hx left (by rw [List.length_cons] at hl; omega)
          · rw [List.length_cons, hstep]
            exact e2 hx
        · rw [if_pos h2] at hp
          obtain ⟨t, ht⟩ := hp
          have hx : pre ++ [x] ++ t = [] := by injection ht
          simp at hx
      · rw [if_pos h1] at hp
        obtain ⟨t, ht⟩ := hp
        have hx : pre ++ [x] ++ t = [] := by injection ht
        simp at hx

/-- between two rounds; where a round has left -/
def gtI (h L r : Nat) (w : World) (pre : List (ByteArray × Int)) (W : World) : Prop :=
  (∀ y ∈ pre, y.2 = 0) ∧ pre.length ≤ r ∧ W.heap[h]? = some (.cells #[.string ⟨#[]⟩] 9) ∧ W.heap[h + 1]? = some (.cells #[.int .i64 0] 24) ∧ W.heap[L]? = some (.cells #[.int .i64 ((r - pre.length : Nat) : Int)] 2) ∧ Below h w W
def gtX (h r : Nat) (w : World) (c : Code) (pre : List (ByteArray × Int)) (W : World) : Prop :=
  c = .ret ∧ ∃ pre' x, pre = pre' ++ [x] ∧ (∀ y ∈ pre', y.2 = 0) ∧ pre'.length ≤ r ∧ ((x.2 ≠ 0 ∧ W.heap[h]? = some (.cells #[.string ⟨#[]⟩] 9) ∧ W.heap[h + 1]? = some (.cells #[.int .i64 x.2] 24)) ∨
    (x.2 = 0 ∧ pre'.length = r ∧ W.heap[h]? = some (.cells #[.string x.1] 9) ∧ W.heap[h + 1]? = some (.cells #[.int .i64 0] 24))) ∧ Below h w W
theorem cells_own {W W' : World} {row : Option Nat} {k B : Nat} {cs : Array Value} {t : TypeId} (h : W.heap[k]? = some (.cells cs t)) (hg : W.grownBy W' row) (hr : ∀ r, row = some r → B ≤ r ∧ ∃ o : Obj, W.heap[r]? = some o ∧ o.isCells = false) : W'.heap[k]? = some (.cells cs t) := by
  rw [hg.block k (Array.getElem?_eq_some_iff.1 h).1 (fun e => by obtain ⟨_, o, ho, hc⟩ := hr k e.symm; rw [h] at ho; cases ho; cases hc)]
  exact h
theorem gtI_own {h L r B : Nat} {w : World} (hB : h ≤ B) (hw : h ≤ w.heap.size) : OwnFrom B (gtI h L r w) := by
  rintro s A C row ⟨h1, h2, h3, h4, h5, h6⟩ hg hr
  exact ⟨h1, h2, cells_own h3 hg hr, cells_own h4 hg hr, cells_own h5 hg hr, ownFrom_below (β := Unit) hw hB () A C row h6 hg hr⟩
theorem gtX_own {h r B : Nat} {w : World} (hB : h ≤ B) (hw : h ≤ w.heap.size) (c : Code) : OwnFrom B (gtX h r w c) := by
  rintro s A C row ⟨h1, pre', x, h2, h3, h4, h5, h6⟩ hg hr
  refine ⟨h1, pre', x, h2, h3, h4, ?_, ownFrom_below (β := Unit) hw hB () A C row h6 hg hr⟩
  rcases h5 with ⟨a, b, c⟩ | ⟨a, b, c, d⟩
  · exact .inl ⟨a, cells_own b hg hr, cells_own c hg hr⟩
  · exact .inr ⟨a, b, cells_own c hg hr, cells_own d hg hr⟩

theorem results_get (tmps : Array Value) (w : World) (g : Nat) (p : ByteArray) (e : Int) (hp : tmps.getD 6 undef = .pointer (some ⟨g, 0, none⟩)) (hq : tmps.getD 7 undef = .pointer (some ⟨g + 1, 0, none⟩))
    (hu : w.cell? ⟨g, 0, none⟩ = some (.string p)) (hv : w.cell? ⟨g + 1, 0, none⟩ = some (.int .i64 e)) :
    (results Try.f12 tmps).run Try.prog w = .ok (.tuple #[.string p, .int .i64 e]) w := by
  have hp' : tmps[6]?.getD undef = .pointer (some ⟨g, 0, none⟩) := by simpa using hp
  have hq' : tmps[7]?.getD undef = .pointer (some ⟨g + 1, 0, none⟩) := by simpa using hq
  simp [results, hp', hq', asAddr, loadVar, go_sem, hu, hv]

set_option maxRecDepth 100000 in
set_option maxHeartbeats 2000000 in
theorem get_in (b e f gd : Nat) (ps : List Nat) (s : ByteArray) (q : Nat) (w : World) (he : 0 < e) (hn : f + ps.length ≤ 1000000000) (hs : s.size ≤ 1000000) (hpb : ∀ p ∈ ps, p ≤ 1000000000) (h : Ixr w b e f ps gd) (hq1 : f ≤ q) (hq2 : q < f + ps.length) :
    CallsIn Fence.wide 3 Try.prog 12 #[.pointer (some ⟨b, 0, none⟩), .string s, .int .i64 q] w
      fun e' w' => e' = .returned (.tuple #[.string (bs (getP s.data.toList ((q - f) % e) (ps.getD ((q - f) / e * e) 0) (f + (q - f) / e * e))), .int .i64 (getE s.data.toList ((q - f) % e) (ps.getD ((q - f) / e * e) 0) (f + (q - f) / e * e))]) ∧ Below w.heap.size w w' := by
  obtain ⟨p1, p2, p3, p4⟩ := mark_pos e f ps.length q he hq1 hq2
  have hfr := fun w' hw' => from_yes b e f gd ps q w' he hn hw' hq1 hq2
  obtain ⟨r, hr⟩ : ∃ r, (q - f) % e = r := ⟨_, rfl⟩
  obtain ⟨M, hM⟩ : ∃ M, f + (q - f) / e * e = M := ⟨_, rfl⟩
  obtain ⟨A, hA⟩ : ∃ A, ps.getD ((q - f) / e * e) 0 = A := ⟨_, rfl⟩
  have hAb : A ≤ 1000000000 := by
    rw [← hA, List.getD_eq_getElem?_getD]
    cases hx : ps[(q - f) / e * e]? with
    | none => exact Nat.zero_le _
    | some z => exact hpb z (List.mem_of_getElem? hx)
  rw [hM, hA] at hfr ⊢
  rw [hr] at p4 ⊢
  have hqM : q = M + r := by omega
  have HF := Lib.hid hfr
  have HI := Lib.hid h
  have hMb : M ≤ 1000000000 := by omega
  have hrb : r ≤ 1000000000 := by omega
  clear hfr hr hM hA p1 p2 p3 p4 h hq1 hq2 hpb
  subst hqM
  refine callsIn_of_wp_marks Try.func12 rfl trivial ?_
  simp only [Try.ntmps12, List.size_toArray, List.length_cons, List.length_nil, Nat.reduceAdd, Nat.reduceSub, Array.replicate_succ, Array.replicate_zero, List.push_toArray, List.append_toArray, List.nil_append, List.cons_append]
  gi_wp2
  refine ⟨trivial, (callsIn_wide.2 (HF.out _ (HI.out.keep (((Below.refl _ _).alloc (Nat.le_refl _) _).alloc (by simp) _)))).mono ?_⟩
  rintro e' w1 ⟨rfl, hb1⟩
  gi_wp2
  rw [show (M : Int) + (r : Int) - (M : Int) = (r : Int) by omega]
  refine ⟨trivial, (callsIn_wide.2 (read_fn s _ _ _)).mono ?_⟩
  rintro e' w' ⟨rfl, rfl⟩
  gi_wp2
  obtain ⟨W0, eW⟩ : ∃ W0, ((((w1.alloc (.cells #[.int .i64 M, .int .i64 A] 44)).alloc (.cells #[.int .i64 r] 2)).alloc (.cells #[.string s] 9)).alloc (.cells #[.int .i64 M, .int .i64 A] 44)) = W0 := ⟨_, rfl⟩
  have hz1 : w.heap.size + 2 ≤ w1.heap.size := by have := hb1.size; simpa using this
  have hz0 : W0.heap.size = w1.heap.size + 4 := by rw [← eW]; simp
  have hbw1 : Below w.heap.size w w1 := (((Below.refl _ _).alloc (Nat.le_refl _) (.cells #[.string ⟨#[]⟩] 9)).alloc (by simp) (.cells #[.int .i64 0] 24)).trans (hb1.mono (by simp; omega))
  have hbw0 : Below w1.heap.size w1 W0 := by rw [← eW]; exact ((((Below.refl _ _).alloc (Nat.le_refl _) _).alloc (by simp) _).alloc (by simp; omega) _).alloc (by simp; omega) _
  have hr0 : W0.heap[w.heap.size]? = some (.cells #[.string ⟨#[]⟩] 9) := (hbw0.block _ (by omega)).trans ((hb1.block _ (by simp; omega)).trans ((heap_alloc_old _ _ _ (by simp)).trans (heap_alloc_new _ _)))
  have hr1 : W0.heap[w.heap.size + 1]? = some (.cells #[.int .i64 0] 24) := (hbw0.block _ (by omega)).trans ((hb1.block _ (by simp)).trans (heap_alloc2_new _ _ _))
  obtain ⟨_, hrL, hrs, hrm, _⟩ := rows5 w1 (.cells #[.int .i64 M, .int .i64 A] 44) (.cells #[.int .i64 r] 2) (.cells #[.string s] 9) (.cells #[.int .i64 M, .int .i64 A] 44) (.cells #[] 9)
  rw [eW] at hrL hrs hrm
  rw [heap_alloc_old _ _ _ (by omega)] at hrL hrs hrm
  have hB0 := hbw1.trans (hbw0.mono (by omega))
  rw [eW]
  clear eW hb1 hbw1 hbw0
  refine wpIn_rangeFunc_ownF (F := Fence.wide) (n := 3) rfl (by omega) (gf := 66) (lb := #[.pointer (some ⟨w1.heap.size + 1 + 1 + 1, 0, none⟩), .pointer (some ⟨w1.heap.size + 1 + 1, 0, none⟩)]) rfl trivial (enters_of Try.func66 (by kernel_rfl) rfl)
    (encs := encR) (Kp := fun W W' => W'.heap[w1.heap.size + 2]? = W.heap[w1.heap.size + 2]?) (S := fun xs => xs = rdSeq s.data.toList (s.size + 2) A M) (Sp := fun pre => pre <+: rdSeq s.data.toList (s.size + 2) A M) (N := s.size + 3) (w0 := W0) ?seq
    (fun h k => k.trans h) (fun W l o o' hl _ _ _ => World.putObj_heap_other (by omega)) (Below.refl _ _) (fun _ => rfl)
    (gtI w.heap.size (w1.heap.size + 1) r w) (gtX w.heap.size r w) (gtI_own (by omega) (Nat.le_refl _)) (fun c => gtX_own (by omega) (Nat.le_refl _) c)
    ⟨(fun y hy => by cases hy), Nat.zero_le _, hr0, hr1, hrL, hB0⟩
    (fun x => { tmps := #[.pointer (some ⟨b, 0, none⟩), .string s, .int .i64 ((M : Int) + (r : Int)), undef, undef, undef, .pointer (some ⟨w.heap.size, 0, none⟩), .pointer (some ⟨w.heap.size + 1, 0, none⟩), .pointer (some ⟨w1.heap.size, 0, none⟩), .bool true,
      .pointer (some ⟨w1.heap.size + 1, 0, none⟩), .string x.1, .int .i64 x.2, .pointer (some ⟨b, 0, none⟩), .bool false, .tuple #[.agg #[.int .i64 M, .int .i64 A], .bool true], .pointer (some ⟨b, 0, none⟩), .int .i64 ((M : Int) + (r : Int)),
      .tuple #[.agg #[.int .i64 M, .int .i64 A], .bool true], .agg #[.int .i64 M, .int .i64 A], .bool true, .bool true, .bool false, .int .i64 ((M : Int) + (r : Int)), .pointer (some ⟨w1.heap.size, 0, none⟩), .int .i64 M, .int .i64 r, .string s,
      .agg #[.int .i64 M, .int .i64 A], .func (.func 66) #[] #[.pointer (some ⟨w1.heap.size + 1 + 1 + 1, 0, none⟩), .pointer (some ⟨w1.heap.size + 1 + 1, 0, none⟩)], .string x.1, .int .i64 x.2, undef, undef, undef, undef, undef, undef, undef, undef], defers := [] }) ?assign ?body ?done ?stop
  case seq =>
    intro l J Jx W hW hJ hJx hY hJ0
    exact read1_in 2 s A M hs hAb hMb l (w1.heap.size + 3) (w1.heap.size + 2) _ J Jx hJ hY W ((hW.block _ (by omega)).trans hrm) ((hW.block _ (by omega)).trans hrs) hJ0
  case assign =>
    intro l x W K hK
    simp only [encR]
    gi_wp2
    exact hK
  case body =>
    rintro l pre x W ⟨h1, h2, h3, h4, h5, h6⟩ _
    obtain ⟨D, hD⟩ : ∃ D, r - pre.length = D := ⟨_, rfl⟩
    rw [hD] at h5
    have ne1 : w.heap.size + 1 ≠ w.heap.size := by omega
    have k0 : W.cell? ⟨w.heap.size, 0, none⟩ = some (.string ⟨#[]⟩) := by rw [cell_of_row _ _ _ _ _ _ h3]; rfl
    have k1 : W.cell? ⟨w.heap.size + 1, 0, none⟩ = some (.int .i64 0) := by rw [cell_of_row _ _ _ _ _ _ h4]; rfl
    have k2 : W.cell? ⟨w1.heap.size + 1, 0, none⟩ = some (.int .i64 D) := by rw [cell_of_row _ _ _ _ _ _ h5]; rfl
    have f0 : W.frozen? ⟨w.heap.size, 0, none⟩ = false := frozen_of_row _ _ _ _ _ h3
    have f1 : W.frozen? ⟨w.heap.size + 1, 0, none⟩ = false := frozen_of_row _ _ _ _ _ h4
    have f2 : W.frozen? ⟨w1.heap.size + 1, 0, none⟩ = false := frozen_of_row _ _ _ _ _ h5
    have H1 := Lib.hid h1
    have H2 := Lib.hid h2
    have H3 := Lib.hid h3
    have H4 := Lib.hid h4
    have H5 := Lib.hid h5
    have H6 := Lib.hid h6
    have HD := Lib.hid hD
    clear h1 h2 h3 h4 h5 h6 hD
    by_cases hx : x.2 = 0
    · obtain ⟨y, z⟩ := x
      obtain rfl : z = 0 := hx
      by_cases h0 : D = 0
      · subst h0
        gi_wp2
        have n0 := heap_setCell_same W w.heap.size 0 _ _ (.string y) H3.out
        have n1 : (W.setCell ⟨w.heap.size, 0, none⟩ (.string y)).heap[w.heap.size + 1]? = _ := (heap_setCell_ne _ _ _ (by show w.heap.size + 1 ≠ w.heap.size; omega)).trans H4.out
        have n1' := heap_setCell_same _ (w.heap.size + 1) 0 _ _ (.int .i64 0) n1
        have n0' := (heap_setCell_ne (W.setCell ⟨w.heap.size, 0, none⟩ (.string y)) ⟨w.heap.size + 1, 0, none⟩ (.int .i64 0) (k := w.heap.size) (by show w.heap.size ≠ w.heap.size + 1; omega)).trans n0
        refine ⟨(KeepsOthers.setCell _ _ _).trans (KeepsOthers.setCell _ _ _), rfl, pre, (y, 0), rfl, H1.out, H2.out, .inr ⟨rfl, by have := HD.out; have := H2.out; omega, n0', n1'⟩, (H6.out.setCell (p := ⟨w.heap.size, 0, none⟩) (Nat.le_refl _) _).setCell (p := ⟨w.heap.size + 1, 0, none⟩) (by show w.heap.size ≤ w.heap.size + 1; omega) _⟩
      · have d1 : ((D : Int) == 0) = false := by rw [beq_eq_false_iff_ne]; omega
        have hw : IntKind.i64.wrap ((D : Int) - 1) = ((D - 1 : Nat) : Int) := by rw [IntWalk.i64_in _ (by have := HD.out; omega)]; omega
        gi_wp2
        refine ⟨KeepsOthers.setCell _ _ _, heap_setCell_ne _ _ _ (by show w1.heap.size + 2 ≠ w1.heap.size + 1; omega), ?_, ?_, (heap_setCell_ne _ _ _ (by show w.heap.size ≠ w1.heap.size + 1; omega)).trans H3.out, (heap_setCell_ne _ _ _ (by show w.heap.size + 1 ≠ w1.heap.size + 1; omega)).trans H4.out, ?_, H6.out.setCell (p := ⟨w1.heap.size + 1, 0, none⟩) (by show w.heap.size ≤ w1.heap.size + 1; omega) _⟩
        · intro z hz
          rcases List.mem_append.1 hz with h | h
          · exact H1.out z h
          · rw [List.mem_singleton.1 h]
        · have := HD.out; have := H2.out; simp; omega
        · have n2 := heap_setCell_same W (w1.heap.size + 1) 0 _ _ (.int .i64 ((D - 1 : Nat) : Int)) H5.out
          have he : ((r - (pre ++ [(y, (0 : Int))]).length : Nat) : Int) = ((D - 1 : Nat) : Int) := by have := HD.out; have := H2.out; simp; omega
          rw [he]
          exact n2
    · have d1 : (x.2 != 0) = true := by rw [bne_iff_ne]; exact hx
      gi_wp2
      have n0 := heap_setCell_same W w.heap.size 0 _ _ (.string ⟨#[]⟩) H3.out
      have n1 : (W.setCell ⟨w.heap.size, 0, none⟩ (.string ⟨#[]⟩)).heap[w.heap.size + 1]? = _ := (heap_setCell_ne _ _ _ (by show w.heap.size + 1 ≠ w.heap.size; omega)).trans H4.out
      have n1' := heap_setCell_same _ (w.heap.size + 1) 0 _ _ (.int .i64 x.2) n1
      have n0' := (heap_setCell_ne (W.setCell ⟨w.heap.size, 0, none⟩ (.string ⟨#[]⟩)) ⟨w.heap.size + 1, 0, none⟩ (.int .i64 x.2) (k := w.heap.size) (by show w.heap.size ≠ w.heap.size + 1; omega)).trans n0
      refine ⟨(KeepsOthers.setCell _ _ _).trans (KeepsOthers.setCell _ _ _), rfl, pre, x, rfl, H1.out, H2.out, .inl ⟨hx, n0', n1'⟩, (H6.out.setCell (p := ⟨w.heap.size, 0, none⟩) (Nat.le_refl _) _).setCell (p := ⟨w.heap.size + 1, 0, none⟩) (by show w.heap.size ≤ w.heap.size + 1; omega) _⟩
  case done =>
    rintro D xs W hD rfl ⟨h1, _⟩ hK
    have hl : s.data.toList.length = s.size := rfl
    obtain ⟨y, hy, hy2⟩ := rd_last s.data.toList (s.size + 2) A M (by omega) (fun _ => by omega)
    exact absurd (h1 y hy) hy2
  case stop =>
    rintro D c pre W hD hpre ⟨rfl, pre', x, rfl, h3, h4, h5, h6⟩ hK
    have hne : D ≠ w.heap.size := by omega
    have hne1 : D ≠ w.heap.size + 1 := by omega
    obtain ⟨e1, e2⟩ := rd_get s.data.toList x pre' _ _ _ hpre h3
    have hbD := h6.trans (belowK_b (w := w) (Nat.le_refl _) W D _ (.deferred none) (by omega) hK rfl rfl)
    have HBD := Lib.hid hbD
    have key : ∃ p E, W.heap[w.heap.size]? = some (.cells #[.string p] 9) ∧ W.heap[w.heap.size + 1]? = some (.cells #[.int .i64 E] 24) ∧ p = bs (getP s.data.toList r A M) ∧ E = (getE s.data.toList r A M : Int) := by
      rcases h5 with ⟨a, b, c⟩ | ⟨a, b, c, d⟩
      · have hE := e1 a r h4
        refine ⟨_, _, b, c, ?_, hE.symm⟩
        unfold getP
        rw [if_neg (by intro h0; rw [h0] at hE; exact a hE.symm)]
        rfl
      · obtain ⟨g1, g2⟩ := e2 a
        rw [b] at g1 g2
        refine ⟨_, _, c, d, ?_, by rw [g1]; rfl⟩
        unfold getP
        rw [if_pos g1, g2]; rfl
    obtain ⟨p, E, r0, r1, rfl, rfl⟩ := key
    have R0 := Lib.hid r0
    have R1 := Lib.hid r1
    clear r0 r1 h5 e1 e2 hbD h6 hpre h3
    gi_wp2
    refine ⟨by simp, .inl ⟨_, _, rfl, run_takeDeferred hK, ?_⟩⟩
    refine ⟨_, results_get _ _ w.heap.size _ _ rfl rfl (by rw [cell_of_row _ _ _ _ _ _ ((World.putObj_heap_other (by omega)).trans R0.out)]; rfl) (by rw [cell_of_row _ _ _ _ _ _ ((World.putObj_heap_other (by omega)).trans R1.out)]; rfl), rfl, HBD.out⟩


theorem get_no (b e f gd : Nat) (ps : List Nat) (s : ByteArray) (q : Int) (w : World) (h : Ixr w b e f ps gd) (hq : ¬ inIx f ps.length q) :
    CallsIn Fence.wide 3 Try.prog 12 #[.pointer (some ⟨b, 0, none⟩), .string s, .int .i64 q] w
      fun e' w' => e' = .returned (.tuple #[.string ⟨#[]⟩, .int .i64 5]) ∧ Below w.heap.size w w' := by
  have HF := Lib.hid (fun w' hw' => from_no b e f gd ps q w' hw' hq)
  have HI := Lib.hid h
  clear h
  refine callsIn_of_wp_marks Try.func12 rfl trivial ?_
  simp only [Try.ntmps12, List.size_toArray, List.length_cons, List.length_nil, Nat.reduceAdd, Nat.reduceSub, Array.replicate_succ, Array.replicate_zero, List.push_toArray, List.append_toArray, List.nil_append, List.cons_append]
  gi_wp2
  refine ⟨trivial, (callsIn_wide.2 (HF.out _ (HI.out.keep (((Below.refl _ _).alloc (Nat.le_refl _) _).alloc (by simp) _)))).mono ?_⟩
  rintro e' w1 ⟨rfl, hb1⟩
  have hz1 : w.heap.size + 2 ≤ w1.heap.size := by have := hb1.size; simpa using this
  have hbw1 : Below w.heap.size w w1 := (((Below.refl _ _).alloc (Nat.le_refl _) (.cells #[.string ⟨#[]⟩] 9)).alloc (by simp) (.cells #[.int .i64 0] 24)).trans (hb1.mono (by simp; omega))
  have hr0 : w1.heap[w.heap.size]? = some (.cells #[.string ⟨#[]⟩] 9) := (hb1.block _ (by simp; omega)).trans ((heap_alloc_old _ _ _ (by simp)).trans (heap_alloc_new _ _))
  have hr1 : w1.heap[w.heap.size + 1]? = some (.cells #[.int .i64 0] 24) := (hb1.block _ (by simp)).trans (heap_alloc2_new _ _ _)
  have hr0' := (heap_alloc_old w1 (.cells #[.int .i64 0, .int .i64 0] 44) w.heap.size (by omega)).trans hr0
  have hr1' := (heap_alloc_old w1 (.cells #[.int .i64 0, .int .i64 0] 44) (w.heap.size + 1) (by omega)).trans hr1
  have hB := bel_alloc hbw1 (.cells #[.int .i64 0, .int .i64 0] 44)
  have k0 : (w1.alloc (.cells #[.int .i64 0, .int .i64 0] 44)).cell? ⟨w.heap.size, 0, none⟩ = some (.string ⟨#[]⟩) := by rw [cell_of_row _ _ _ _ _ _ hr0']; rfl
  have k1 : (w1.alloc (.cells #[.int .i64 0, .int .i64 0] 44)).cell? ⟨w.heap.size + 1, 0, none⟩ = some (.int .i64 0) := by rw [cell_of_row _ _ _ _ _ _ hr1']; rfl
  have f0 := frozen_of_row _ _ 0 _ _ hr0'
  have f1 := frozen_of_row _ _ 0 _ _ hr1'
  have ne1 : w.heap.size + 1 ≠ w.heap.size := by omega
  have HB := Lib.hid hB
  have H0 := Lib.hid hr0'
  have H1 := Lib.hid hr1'
  clear hr0 hr1 hr0' hr1' hbw1 hb1 hB
  gi_wp2
  have n0 := heap_setCell_same (w1.alloc (.cells #[.int .i64 0, .int .i64 0] 44)) w.heap.size 0 _ _ (.string ⟨#[]⟩) H0.out
  have n1 : ((w1.alloc (.cells #[.int .i64 0, .int .i64 0] 44)).setCell ⟨w.heap.size, 0, none⟩ (.string ⟨#[]⟩)).heap[w.heap.size + 1]? = _ := (heap_setCell_ne _ _ _ (by show w.heap.size + 1 ≠ w.heap.size; omega)).trans H1.out
  have n1' := heap_setCell_same _ (w.heap.size + 1) 0 _ _ (.int .i64 5) n1
  have n0' := (heap_setCell_ne ((w1.alloc (.cells #[.int .i64 0, .int .i64 0] 44)).setCell ⟨w.heap.size, 0, none⟩ (.string ⟨#[]⟩)) ⟨w.heap.size + 1, 0, none⟩ (.int .i64 5) (k := w.heap.size) (by show w.heap.size ≠ w.heap.size + 1; omega)).trans n0
  refine ⟨_, results_get _ _ w.heap.size _ _ rfl rfl (by rw [cell_of_row _ _ _ _ _ _ n0']; rfl) (by rw [cell_of_row _ _ _ _ _ _ n1']; rfl), rfl, (HB.out.setCell (p := ⟨w.heap.size, 0, none⟩) (Nat.le_refl _) _).setCell (p := ⟨w.heap.size + 1, 0, none⟩) (by show w.heap.size ≤ w.heap.size + 1; omega) _⟩

/-- Get: the error, the payload -/
def gE (e f : Nat) (ps : List Nat) (l : List UInt8) (q : Int) : Nat := if inIx f ps.length q then getE l ((q.toNat - f) % e) (ps.getD ((q.toNat - f) / e * e) 0) (f + (q.toNat - f) / e * e) else 5
def gP (e f : Nat) (ps : List Nat) (l : List UInt8) (q : Int) : ByteArray := if inIx f ps.length q then bs (getP l ((q.toNat - f) % e) (ps.getD ((q.toNat - f) / e * e) 0) (f + (q.toNat - f) / e * e)) else ⟨#[]⟩
theorem get_any (b e f gd : Nat) (ps : List Nat) (s : ByteArray) (q : Int) (w : World) (he : 0 < e) (hn : f + ps.length ≤ 1000000000) (hs : s.size ≤ 1000000) (hpb : ∀ p ∈ ps, p ≤ 1000000000) (h : Ixr w b e f ps gd) :
    Calls Try.prog 12 #[.pointer (some ⟨b, 0, none⟩), .string s, .int .i64 q] w
      fun e' w' => e' = .returned (.tuple #[.string (gP e f ps s.data.toList q), .int .i64 (gE e f ps s.data.toList q)]) ∧ Below w.heap.size w w' := by
  refine (callsIn_wide (n := 3)).1 ?_
  unfold gP gE
  by_cases hq : inIx f ps.length q
  · obtain ⟨m, rfl⟩ : ∃ m : Nat, q = m := ⟨q.toNat, by unfold inIx at hq; omega⟩
    rw [if_pos hq, if_pos hq, Int.toNat_natCast]
    unfold inIx at hq
    exact get_in b e f gd ps s m w he hn hs hpb h (by omega) (by omega)
  · rw [if_neg hq, if_neg hq]
    exact get_no b e f gd ps s q w h hq

end Go.Proofs.Ytmeefecpnfclpaa
