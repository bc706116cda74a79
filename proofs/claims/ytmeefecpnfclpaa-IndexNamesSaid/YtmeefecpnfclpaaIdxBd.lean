/- Walks over package index: Build. -/
import Derived.Test.YtmeefecpnfclpaaSegS
import Derived.Test.YtmeefecpnfclpaaB4
import Derived.Test.YtmeefecpnfclpaaIdxD
namespace Go.Proofs.Ytmeefecpnfclpaa
open Go.RowKit

theorem frRow_at (s : ByteArray) : ∀ (ps : List Nat) (i : Nat), i < ps.length → (frRow s ps)[i * 3]? = some (.int .i64 (fQ s.data.toList (ps.getD i 0))) ∧
    (frRow s ps)[i * 3 + 1]? = some (.string (bs (sl s.data.toList (ps.getD i 0 + 16) (fN s.data.toList (ps.getD i 0))))) ∧ (frRow s ps)[i * 3 + 2]? = some (.int .i64 ((ps.getD i 0 : Nat) : Int)) := by
  intro ps
  induction ps with
  | nil => intro i h; cases h
  | cons p ps ih =>
    intro i h
    have e : frRow s (p :: ps) = (frCells (fQ s.data.toList p) (bs (sl s.data.toList (p + 16) (fN s.data.toList p))) p).toList ++ frRow s ps := rfl
    have e3 : (frCells (fQ s.data.toList p) (bs (sl s.data.toList (p + 16) (fN s.data.toList p))) p).toList.length = 3 := rfl
    cases i with
    | zero => exact ⟨rfl, rfl, rfl⟩
    | succ i =>
      obtain ⟨h1, h2, h3⟩ := ih i (by rw [List.length_cons] at h; omega)
      have hg : (p :: ps).getD (i + 1) 0 = ps.getD i 0 := rfl
      rw [hg]
      refine ⟨?_, ?_, ?_⟩
      · rw [e, List.getElem?_append_right (by rw [e3]; omega), e3, show (i + 1) * 3 - 3 = i * 3 by omega]; exact h1
      · rw [e, List.getElem?_append_right (by rw [e3]; omega), e3, show (i + 1) * 3 + 1 - 3 = i * 3 + 1 by omega]; exact h2
      · rw [e, List.getElem?_append_right (by rw [e3]; omega), e3, show (i + 1) * 3 + 2 - 3 = i * 3 + 2 by omega]; exact h3
/-- the cells of a row of frames -/
theorem frow_cells {w : World} {B cap n : Nat} {oa : Option Addr} {xs : List Value} (h : w.ownsRow B 40 3 (.slice oa n cap) n xs) (h0 : 0 < n) :
    ∃ g, oa = some ⟨g, 0, none⟩ ∧ g < w.heap.size ∧ B ≤ g ∧ ∀ (j : Nat) v, xs[j]? = some v → w.cell? ⟨g, j, none⟩ = some v := by
  rcases h.2 with ⟨_, hn⟩ | ⟨g, c, cur, hv, hB, hcur, _⟩
  · subst hn; cases h0
  · cases hv
    have add : ∀ j, (⟨g, 0, none⟩ : Addr).add j = ⟨g, j, none⟩ := fun j => by unfold Addr.add; split <;> simp_all
    refine ⟨g, rfl, (Array.getElem?_eq_some_iff.1 hcur).1, hB, fun j v hj => ?_⟩
    have c0 := h.cells (g := g) rfl j v hj
    rwa [add] at c0

/-- Build's error -/
def bdE (e : Int) (l : List UInt8) : Nat := if e < 1 ∨ 64 < e then 1 else hdE l

set_option maxHeartbeats 1000000 in
theorem build_arg (s : ByteArray) (e : Int) (w : World) (h : e < 1 ∨ 64 < e) :
    Calls Try.prog 10 #[.string s, .int .i64 e] w fun e' w' => e' = .returned (.tuple #[.pointer none, .int .i64 1]) ∧ Below w.heap.size w w' := by
  by_cases h1 : e < 1
  · have d1 : decide (e < 1) = true := decide_eq_true h1
    go_enter Try.func10, Try.ntmps10
    go_wp2_with fail
    go_ret2
    exact ⟨rfl, Below.refl _ _⟩
  · have d1 : decide (e < 1) = false := decide_eq_false h1
    have d2 : decide ((64 : Int) < e) = true := decide_eq_true (by omega)
    go_enter Try.func10, Try.ntmps10
    go_wp2_with fail
    go_ret2
    exact ⟨rfl, Below.refl _ _⟩
set_option maxHeartbeats 1000000 in
theorem build_bad (s : ByteArray) (e : Int) (w : World) (h1 : 1 ≤ e) (h2 : e ≤ 64) (h : hdE s.data.toList ≠ 0) :
    Calls Try.prog 10 #[.string s, .int .i64 e] w fun e' w' => e' = .returned (.tuple #[.pointer none, .int .i64 (hdE s.data.toList)]) ∧ Below w.heap.size w w' := by
  have d1 : decide (e < 1) = false := decide_eq_false (by omega)
  have d2 : decide ((64 : Int) < e) = false := decide_eq_false (by omega)
  have hf := sscan_bad s w h
  obtain ⟨E, hE⟩ : ∃ E, hdE s.data.toList = E := ⟨_, rfl⟩
  rw [hE] at hf h ⊢
  have d3 : ((E : Int) != 0) = true := by rw [bne_iff_ne]; omega
  unfold sgZero sgC at hf
  have HF := Lib.hid hf
  clear hf hE h
  go_enter Try.func10, Try.ntmps10
  go_wp2_with fail
  refine HF.out.mono ?_
  rintro e' w1 ⟨rfl, hb1⟩
  go_wp2_with fail
  go_ret2
  exact ⟨rfl, bel_alloc hb1 _⟩

set_option maxRecDepth 100000 in
set_option maxHeartbeats 2000000 in
theorem build_ok (s : ByteArray) (e : Nat) (w : World) (hs : s.size ≤ 1000000) (h1 : 1 ≤ e) (h2 : e ≤ 64) (h : hdE s.data.toList = 0) :
    Calls Try.prog 10 #[.string s, .int .i64 e] w fun e' w' => ∃ b, e' = .returned (.tuple #[.pointer (some ⟨b, 0, none⟩), .int .i64 0]) ∧ w.heap.size ≤ b ∧
      Ixr w' b e (hdF s.data.toList) (scanL s.data.toList 16 (hdF s.data.toList)) (scanG s.data.toList 16 (hdF s.data.toList)) ∧ Below w.heap.size w w' := by
  have d1 : decide ((e : Int) < 1) = false := decide_eq_false (by omega)
  have d2 : decide ((64 : Int) < (e : Int)) = false := decide_eq_false (by omega)
  have hf := sscan_ok s w hs h
  have hF := (hd_ok h).2.2.2
  have hlen : (scanL s.data.toList 16 (hdF s.data.toList)).length * 16 ≤ 1000000 := by
    have hl : s.data.toList.length = s.size := rfl
    have h16 := (hd_ok h).1
    have := scanP_len s.data.toList (s.data.toList.length + 1) 16 (hdF s.data.toList) h16
    unfold scanL
    rw [if_neg (by omega)]
    show (scanP s.data.toList (s.data.toList.length + 1) 16 (hdF s.data.toList)).length * 16 ≤ _
    omega
  generalize hdF s.data.toList = F at hf hF hlen ⊢
  generalize scanG s.data.toList 16 F = G at hf ⊢
  generalize scanL s.data.toList 16 F = ps at hf hlen ⊢
  have hat := frRow_at s ps
  obtain ⟨n, hn⟩ : ∃ n, ps.length = n := ⟨_, rfl⟩
  obtain ⟨X, hX⟩ : ∃ X, frRow s ps = X := ⟨_, rfl⟩
  rw [hn, hX] at hf hat
  rw [hn] at hlen
  obtain ⟨wh, hwh⟩ : ∃ wh, decide (G = s.size) = wh := ⟨_, rfl⟩
  rw [hwh] at hf
  unfold sgC at hf
  have HF := Lib.hid hf
  have HA := Lib.hid hat
  have HN := Lib.hid hn
  clear hf hat hn hX hwh h
  go_enter Try.func10, Try.ntmps10
  go_wp2_with fail
  refine HF.out.mono ?_
  rintro e' w1 ⟨oa, cap, rfl, ho, hb1⟩
  have HO := Lib.hid ho
  have HB1 := Lib.hid hb1
  clear ho hb1 HF
  go_wp2_with fail
  have hI0 : Ixr ((w1.alloc (.cells #[.int .i64 F, .slice oa n cap, .int .i64 G, .bool wh] 60)).alloc (.cells #[.int .i64 e, .int .i64 F, .int .i64 F, .int .i64 G, .slice none 0 0] 64)) (w1.heap.size + 1) e F (ps.take 0) G := by
    have hc0 := cnt_zero e h1
    refine ⟨none, 0, ?_, ?_, fun _ => rfl⟩
    · show _ = some (Obj.cells (ixC e F (F + 0) G (.slice none (cntM e 0) 0)) _)
      rw [hc0]; exact heap_alloc2_new _ _ _
    · show World.ownsRow _ 0 _ 2 (.slice none (cntM e 0) 0) (cntM e 0) (mkRow (marksL e F []))
      rw [hc0, marks_nil e F h1]; exact World.ownsRow_nil _ _ _ _
  have HI0 := Lib.hid hI0
  have HO0 := Lib.hid ((HO.out.alloc (.cells #[.int .i64 F, .slice oa n cap, .int .i64 G, .bool wh] 60)).alloc (.cells #[.int .i64 e, .int .i64 F, .int .i64 F, .int .i64 G, .slice none 0 0] 64))
  have HB0 := Lib.hid (bel_alloc (bel_alloc HB1.out (.cells #[.int .i64 F, .slice oa n cap, .int .i64 G, .bool wh] 60)) (.cells #[.int .i64 e, .int .i64 F, .int .i64 F, .int .i64 G, .slice none 0 0] 64))
  have HZ := Lib.hid HB1.out.size
  clear hI0
  go_loopw [37, 10] (fun iv _ W => ∃ i : Nat, i ≤ n ∧ iv = .int .i64 i ∧ Ixr W (w1.heap.size + 1) e F (ps.take i) G ∧ W.ownsRow w.heap.size 40 3 (.slice oa n cap) n X ∧ Below w.heap.size w W) (fun iv _ _ => n - (intOf iv).toNat)
  case atStart => exact ⟨0, Nat.zero_le _, rfl, HI0.out, HO0.out, HB0.out⟩
  case round =>
    obtain ⟨i, hi, rfl, hI, hO, hbl⟩ := hrel
    have HI := Lib.hid hI
    have HOw := Lib.hid hO
    have HB := Lib.hid hbl
    clear hI hO hbl HI0 HO0 HB0
    by_cases hin : i < n
    · obtain ⟨g, rfl, hg, hgB, hrc⟩ := frow_cells HOw.out (by omega)
      obtain ⟨r1, r2, r3⟩ := HA.out i hin
      have p0 := hrc _ _ r1
      have p1 := hrc _ _ r2
      have p2 := hrc _ _ r3
      have hts : ps.take (i + 1) = ps.take i ++ [ps.getD i 0] := by
        rw [List.take_succ_eq_append_getElem (by rw [HN.out]; exact hin), List.getD_eq_getElem?_getD, List.getElem?_eq_getElem (by rw [HN.out]; exact hin)]; rfl
      have HTS := Lib.hid hts
      generalize fQ s.data.toList (ps.getD i 0) = q at p0
      generalize bs (sl s.data.toList (ps.getD i 0 + 16) (fN s.data.toList (ps.getD i 0))) = y at p1
      obtain ⟨P, hP⟩ : ∃ P, ps.getD i 0 = P := ⟨_, rfl⟩
      rw [hP] at p2 HTS
      have hle : (ps.take i).length ≤ i := List.length_take_le _ _
      have hmk := fun W' (hW' : Ixr W' (w1.heap.size + 1) e F (ps.take i) G) => mark_any (w1.heap.size + 1) e F G P (ps.take i) W' h1 (by omega) hW'
      have HMK := Lib.hid hmk
      clear hrc r1 r2 r3 hts hP hmk hle
      go_wp2_with fail
      refine (HMK.out _ (HI.out.keep ((Below.refl _ _).alloc (Nat.le_refl _) _))).mono ?_
      rintro e' w2 ⟨rfl, k1, k2⟩
      have hblk : ∃ arr, (wr.alloc (.cells #[.int .i64 q, .string y, .int .i64 P] 40)).heap[w1.heap.size + 1]? = some (.cells arr 64) := by
        obtain ⟨_, _, h3, _⟩ := HI.out.keep ((Below.refl _ _).alloc (Nat.le_refl _) (.cells #[.int .i64 q, .string y, .int .i64 P] 40))
        exact ⟨_, h3⟩
      obtain ⟨arr, hblk⟩ := hblk
      have K3 := Lib.hid (row_keepX (HOw.out.alloc (.cells #[.int .i64 q, .string y, .int .i64 P] 40)) hblk (by decide) k2)
      have K1 := Lib.hid k1
      have hbw := bel_alloc HB.out (.cells #[.int .i64 q, .string y, .int .i64 P] 40)
      have K4 := Lib.hid (show Below w.heap.size w w2 from ⟨k2.os.trans hbw.os, k2.tape.trans hbw.tape, k2.output.trans hbw.output, Nat.le_trans hbw.size k2.size, fun k hk => (k2.block k (by have := hbw.size; omega) (by have := HZ.out; omega)).trans (hbw.block k hk)⟩)
      clear k1 k2 hblk hbw
      go_wp2_with fail
      go_roundw
      case rel => exact ⟨i + 1, hin, by go_num, by rw [HTS.out]; exact K1.out, K3.out, K4.out⟩
      case measure => simp [intOf]; omega
    · obtain rfl : i = n := by omega
      have HT := Lib.hid (show ps.take i = ps from List.take_of_length_le (by rw [HN.out]; omega))
      rw [HT.out] at HI
      go_wp2_with fail
      go_ret2
      exact ⟨_, rfl, by have := HZ.out; omega, HI.out, HB.out⟩

/-- an index out of a segment's bytes -/
def ixF (l : List UInt8) : Nat := hdF l
def ixP (l : List UInt8) : List Nat := scanL l 16 (hdF l)
def ixG (l : List UInt8) : Nat := scanG l 16 (hdF l)
theorem build_any (s : ByteArray) (e : Int) (w : World) (hs : s.size ≤ 1000000) :
    Calls Try.prog 10 #[.string s, .int .i64 e] w fun e' w' =>
      (bdE e s.data.toList ≠ 0 ∧ e' = .returned (.tuple #[.pointer none, .int .i64 (bdE e s.data.toList)]) ∧ Below w.heap.size w w') ∨
      (bdE e s.data.toList = 0 ∧ ∃ b, e' = .returned (.tuple #[.pointer (some ⟨b, 0, none⟩), .int .i64 0]) ∧ w.heap.size ≤ b ∧ Ixr w' b e.toNat (ixF s.data.toList) (ixP s.data.toList) (ixG s.data.toList) ∧ Below w.heap.size w w') := by
  unfold bdE
  by_cases h1 : e < 1 ∨ 64 < e
  · rw [if_pos h1]
    exact (build_arg s e w h1).mono fun e' w' ⟨h, k⟩ => .inl ⟨by omega, h, k⟩
  · rw [if_neg h1]
    by_cases h2 : hdE s.data.toList = 0
    · obtain ⟨m, rfl⟩ : ∃ m : Nat, e = m := ⟨e.toNat, by omega⟩
      rw [Int.toNat_natCast]
      exact (build_ok s m w hs (by omega) (by omega) h2).mono fun e' w' ⟨b, h, k, l, m⟩ => .inr ⟨h2, b, h, k, l, m⟩
    · exact (build_bad s e w (by omega) (by omega) h2).mono fun e' w' ⟨h, k⟩ => .inl ⟨h2, h, k⟩

end Go.Proofs.Ytmeefecpnfclpaa
