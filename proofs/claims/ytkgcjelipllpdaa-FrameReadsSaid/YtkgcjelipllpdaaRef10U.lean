/- The walk over soukref10.Scan. -/
import Derived.Test.YtkgcjelipllpdaaRef10T
import Derived.Test.YtkgcjelipllpdaaJoinL
namespace Go.Proofs.Ytkgcjelipllpdaa
open Go.RowKit

theorem infoRF : (Try.prog.info? 28).map (fun i => (i.zero, i.size, i.bytes)) = some (some (.agg #[.int .i64 0, .string ⟨#[]⟩, .int .i64 0]), 3, 32) := by kernel_rfl

theorem own_new {w : World} {B : Nat} (hB : B ≤ w.heap.size) (q : Nat) (p : ByteArray) (a : Int) :
    (w.alloc (.cells (frCells q p a) 28)).ownsRow B 28 3 (.slice (some ⟨w.heap.size, 0, none⟩) 1 1) 1 (frCells q p a).toList :=
  ⟨rfl, .inr ⟨w.heap.size, 1, frCells q p a, rfl, hB, heap_alloc_new _ _, Nat.le_refl _, by decide, rfl, rfl⟩⟩
theorem one_fr (s : ByteArray) (xs : List Nat) : ∀ u ∈ frRow s xs, u.oneCell' = true := by
  intro u hu
  unfold frRow at hu
  rw [List.mem_flatMap] at hu
  obtain ⟨a, _, h⟩ := hu
  simp [frCells] at h
  rcases h with rfl | rfl | rfl <;> rfl
theorem add_blk (a : Addr) (j : Nat) : (a.add j).block = a.block := by unfold Addr.add; split <;> rfl
theorem below_own {w w' : World} {B : Nat} {t : TypeId} {k n : Nat} {v : Value} {xs : List Value} (h : w.ownsRow B t k v n xs) (hb : Below w.heap.size w w') : w'.ownsRow B t k v n xs :=
  ⟨h.1, h.2.imp id (fun ⟨g, c, cur, e1, e2, e3, e4⟩ => ⟨g, c, cur, e1, e2, by rw [hb.block g (Array.getElem?_eq_some_iff.1 e3).1]; exact e3, e4⟩)⟩
theorem scanP_len (l : List UInt8) : ∀ (k a : Nat) (f : Int), a ≤ l.length → (scanP l k a f).length * 16 + a ≤ l.length := by
  intro k
  induction k with
  | zero => intro a f h; show 0 * 16 + a ≤ _; omega
  | succ k ih =>
    intro a f h
    by_cases hg : fGood l a f
    · have e : scanP l (k + 1) a f = a :: scanP l k (fNext l a) (f + 1) := by show (if _ then _ else _) = _; rw [if_pos hg]
      obtain ⟨_, _, h3, _⟩ := fE_zero hg.1
      have := ih (fNext l a) (f + 1) h3
      rw [e, List.length_cons]
      unfold fNext at this h3
      unfold fNext
      omega
    · have e : scanP l (k + 1) a f = [] := by show (if _ then _ else _) = _; rw [if_neg hg]
      rw [e]; show 0 * 16 + a ≤ _; omega

set_option maxHeartbeats 4000000 in
theorem rscan_in (s : ByteArray) (hs : s.size ≤ 1000000) : ∀ (k a : Nat) (f : Int) (w : World), a ≤ s.size → s.size - a < k → -9223372036854775808 ≤ f → f ≤ 9223372036854775807 →
    Calls Try.prog 13 #[.string s, .int .i64 a, .int .i64 f] w
      fun e w' => ∃ v, e = .returned (.tuple #[v, .int .i64 (goodP s.data.toList a (scanP s.data.toList k a f) : Nat)]) ∧
        w'.ownsRow w.heap.size 28 3 v (scanP s.data.toList k a f).length (frRow s (scanP s.data.toList k a f)) ∧ Below w.heap.size w w' := by
  have hl : s.data.toList.length = s.size := rfl
  intro k
  induction k with
  | zero => intro a f w ha hk; omega
  | succ k ih =>
    intro a f w ha hk hf0 hf1
    have d1 : decide ((a : Int) < 0) = false := decide_eq_false (by omega)
    have d2 : decide (s.size < a) = false := decide_eq_false (by omega)
    have hr := fun w => rread_any s a w hs
    by_cases hE : fE s.data.toList a = 0
    · obtain ⟨g1, ⟨⟨n1, n2⟩, q1⟩, g3, g4⟩ := fE_zero hE
      rw [readV_good s a ha hE] at hr
      have IH := Lib.hid (fun (f' : Int) (h : f + 1 = f') (w : World) => ih (fNext s.data.toList a) f' w (by rw [← hl]; exact g3) (by unfold fNext; omega))
      have hlen := scanP_len s.data.toList k (fNext s.data.toList a) (f + 1) g3
      have ers : ∀ xs, frRow s (a :: xs) = (frCells (fQ s.data.toList a) (bs (sl s.data.toList (a + 16) (fN s.data.toList a))) a).toList ++ frRow s xs := fun xs => rfl
      have ego : ∀ xs, goodP s.data.toList a (a :: xs) = goodP s.data.toList (fNext s.data.toList a) xs := fun xs => rfl
      by_cases hq : (fQ s.data.toList a : Int) = f
      · have e : scanP s.data.toList (k + 1) a f = a :: scanP s.data.toList k (fNext s.data.toList a) (f + 1) := by show (if _ then _ else _) = _; rw [if_pos ⟨hE, hq⟩]
        rw [e, ego, ers, List.length_cons]
        have HOne := Lib.hid (one_fr s (scanP s.data.toList k (fNext s.data.toList a) (f + 1)))
        obtain ⟨xs, exs⟩ : ∃ xs, scanP s.data.toList k (fNext s.data.toList a) (f + 1) = xs := ⟨_, rfl⟩
        have IH2 := Lib.hid (fun w => IH.out (f + 1) rfl w (by omega) (by omega))
        rw [exs] at hlen HOne IH2 ⊢
        obtain ⟨Y, eY⟩ : ∃ Y, frRow s xs = Y := ⟨_, rfl⟩
        obtain ⟨G, eG⟩ : ∃ G, goodP s.data.toList (fNext s.data.toList a) xs = G := ⟨_, rfl⟩
        rw [eY] at HOne IH2 ⊢
        rw [eG] at IH2 ⊢
        obtain ⟨N, eN⟩ : ∃ N, xs.length = N := ⟨_, rfl⟩
        rw [eN] at hlen IH2 ⊢
        unfold frAt frV frCells at hr
        obtain ⟨q, eq⟩ : ∃ q, fQ s.data.toList a = q := ⟨_, rfl⟩
        rw [eq] at hr hq q1 ⊢
        obtain ⟨p, ep⟩ : ∃ p, bs (sl s.data.toList (a + 16) (fN s.data.toList a)) = p := ⟨_, rfl⟩
        rw [ep] at hr ⊢
        obtain ⟨m, em⟩ : ∃ m, fNext s.data.toList a = m := ⟨_, rfl⟩
        rw [em] at hr IH2 hlen
        have HN := Lib.hid (show N ≤ 1000000 by omega)
        have HR := Lib.hid hr
        clear hr ih IH ers ego e eq ep em exs eY eG eN n1 n2 g1 g3 g4 hlen hf0 hf1 hk
        subst hq
        obtain ⟨i0, hi, hz0, hz1, hz2⟩ := info_parts infoRF
        have HI := Lib.hid hi
        have HZ0 := Lib.hid hz0
        have HZ1 := Lib.hid hz1
        have HZ2 := Lib.hid hz2
        clear hi hz0 hz1 hz2
        go_enter Try.func13, Try.ntmps13
        go_wp2_with fail
        refine (HR.out _).mono ?_
        rintro e w1 ⟨rfl, hb1⟩
        go_wp2_with fail
        refine (IH2.out _).mono ?_
        rintro e w2 ⟨v, rfl, hown, hb2⟩
        have c0 : w2.heap[w1.heap.size]? = some (.cells (frCells q p a) 28) := (hb2.block _ (by simp)).trans (heap_alloc_new _ _)
        have hr0 := rfr_cells c0
        obtain ⟨k0, k1, k2, _, _, _⟩ := hr0
        have HOWN := Lib.hid hown
        have HB := Lib.hid (bel_trans (bel_alloc hb1 (.cells #[.int .i64 q, .string p, .int .i64 a] 28)) hb2)
        have hbz := HB.out.size
        clear hown hb1 hb2 c0
        rcases HOWN.out.2 with ⟨rfl, rfl⟩ | ⟨g, cap, cur, rfl, hg1, hg2, hg3⟩
        · have hY : Y = [] := List.eq_nil_of_length_eq_zero (by have := HOWN.out.1; omega)
          subst hY
          go_wp2_with (at_builtin; refine wpList_append_own_none rfl _ _ 34 rfl w.heap.size 28 i0 3 Try.underlying34 HI.out _ 1 _ rfl (own_new hbz q p a) rfl ?_)
          go_ret2
          exact ⟨_, rfl, by rw [List.append_nil]; exact own_new hbz q p a, bel_alloc HB.out _⟩
        · have hcells := HOWN.out.cells (g := g) rfl
          have hgl : g < w2.heap.size := (Array.getElem?_eq_some_iff.1 hg2).1
          have HCL := Lib.hid hcells
          clear hcells hg2 hg3 hg1
          go_wp2_with (at_builtin; refine wpList_append_own _ rfl _ _ 34 rfl w.heap.size 28 i0 _ 3 32 Try.underlying34 HI.out HZ0.out HZ1.out HZ2.out rfl (by decide) _ 1 _ rfl (own_new hbz q p a) ⟨g, 0, none⟩ N cap Y rfl HOWN.out.1 (fun j u hj => (World.cell?_alloc_lt w2 _ _ (by rw [add_blk]; exact hgl)).trans (HCL.out j u hj)) HOne.out (by unfold maxLen; have := HN.out; omega) (by have := HN.out; omega) (by simp; omega) ?_; intro v' w3 hown3 hg3 hx3)
          go_ret2
          refine ⟨_, rfl, ?_, ?_⟩
          · rw [Nat.add_comm] at hown3; exact hown3
          · refine (bel_alloc HB.out _).grown hg3 (by simp; omega) (fun k e => ?_)
            cases e
            exact hbz
      · have e : scanP s.data.toList (k + 1) a f = [] := by show (if _ then _ else _) = _; rw [if_neg (fun h => hq h.2)]
        rw [e]
        unfold frAt frV frCells at hr
        obtain ⟨q, eq⟩ : ∃ q, fQ s.data.toList a = q := ⟨_, rfl⟩
        rw [eq] at hr hq
        obtain ⟨p, ep⟩ : ∃ p, bs (sl s.data.toList (a + 16) (fN s.data.toList a)) = p := ⟨_, rfl⟩
        rw [ep] at hr
        obtain ⟨m, em⟩ : ∃ m, fNext s.data.toList a = m := ⟨_, rfl⟩
        rw [em] at hr
        have hne : ((q : Int) == f) = false := beq_eq_false_iff_ne.2 hq
        have HR := Lib.hid hr
        clear hr ih IH hlen ers ego e eq ep em
        go_enter Try.func13, Try.ntmps13
        go_wp2_with fail
        refine (HR.out _).mono ?_
        rintro e w1 ⟨rfl, hb1⟩
        go_wp2_with fail
        go_ret2
        exact ⟨.slice none 0 0, rfl, World.ownsRow_nil _ _ _ _, bel_alloc hb1 _⟩
    · rw [readV_bad s a ha hE] at hr
      have e : scanP s.data.toList (k + 1) a f = [] := by show (if _ then _ else _) = _; rw [if_neg (fun h => hE h.1)]
      rw [e]
      unfold frV frCells at hr
      obtain ⟨m, em⟩ : ∃ m, fE s.data.toList a = m := ⟨_, rfl⟩
      rw [em] at hr hE
      have hne : ((m : Int) == 0) = false := beq_eq_false_iff_ne.2 (by omega)
      have HR := Lib.hid hr
      clear hr ih e em
      go_enter Try.func13, Try.ntmps13
      go_wp2_with fail
      refine (HR.out _).mono ?_
      rintro e w1 ⟨rfl, hb1⟩
      go_wp2_with fail
      go_ret2
      exact ⟨.slice none 0 0, rfl, World.ownsRow_nil _ _ _ _, bel_alloc hb1 _⟩

end Go.Proofs.Ytkgcjelipllpdaa
