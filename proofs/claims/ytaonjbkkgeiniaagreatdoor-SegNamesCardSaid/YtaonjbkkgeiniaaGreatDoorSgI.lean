/- seg.segments' iterator, where Split asks: what it yields, one by one. -/
import Derived.Test.YtaonjbkkgeiniaaGreatDoorSgB
import Derived.Test.YtaonjbkkgeiniaaGreatDoorSgF
import Derived.Test.YtaonjbkkgeiniaaGreatDoorSegN
namespace Go.Proofs.YtaonjbkkgeiniaaGreatDoor
open Go.RowKit Go.Shelf
attribute [local go_sem] Oper.semAt_some

/-- Split's segments as texts -/
def spB (most f : Nat) (z : List ByteArray) : List ByteArray := (spL most f (paysL z)).map bs
/-- the iterator's state: what has been told (pre), what is under way (cur), E its blocks -/
def ItS (J : (Nat → Prop) → List ByteArray → World → Prop) (w : World) (zb b : Nat) (E : Nat → Prop) (pre : List ByteArray) (cur : List UInt8) (wr : World) : Prop :=
  J E pre wr ∧ (∀ j, j < zb → wr.heap[j]? = w.heap[j]?) ∧ (∀ k, E k → zb ≤ k) ∧ zb ≤ wr.heap.size ∧ BX E b cur wr
theorem ItS.below {J : (Nat → Prop) → List ByteArray → World → Prop} (hJ : ∀ E s A B, J E s A → KeepX E A B → J (growE E A B) s B) {w : World} {zb b : Nat} {E : Nat → Prop} {pre : List ByteArray} {cur : List UInt8} {A B : World} (h : ItS J w zb b E pre cur A) (hb : Below A.heap.size A B) :
    ItS J w zb b (growE E A B) pre cur B := by
  obtain ⟨h1, h2, h3, h4, h5⟩ := h
  exact ⟨hJ _ _ _ _ h1 (KeepX.of_below hb), fun j hj => (hb.block j (by omega)).trans (h2 j hj), fun k hk => hk.elim (h3 k) (fun e => by omega), Nat.le_trans h4 hb.size, h5.keepB hb⟩
theorem ItS.turn {J : (Nat → Prop) → List ByteArray → World → Prop} (hJ : ∀ E s A B, J E s A → KeepX E A B → J (growE E A B) s B) {w : World} {zb b : Nat} {E : Nat → Prop} {pre : List ByteArray} {cur cur' : List UInt8} {A B : World} (h : ItS J w zb b E pre cur A) (hk : KeepX E A B) (hx : BX (growE E A B) b cur' B) :
    ItS J w zb b (growE E A B) pre cur' B := by
  obtain ⟨h1, h2, h3, h4, h5⟩ := h
  exact ⟨hJ _ _ _ _ h1 hk, fun j hj => (hk.block j (by omega) (fun e => by have := h3 j e; omega)).trans (h2 j hj), fun k hk => hk.elim (h3 k) (fun e => by omega), Nat.le_trans h4 hk.size, hx⟩
theorem ItS.cell {J : (Nat → Prop) → List ByteArray → World → Prop} {w : World} {zb b : Nat} {E : Nat → Prop} {pre : List ByteArray} {cur : List UInt8} {A : World} (h : ItS J w zb b E pre cur A) {k off : Nat} (hk : k < zb) : A.cell? ⟨k, off, none⟩ = w.cell? ⟨k, off, none⟩ := by
  unfold World.cell?
  rw [h.2.1 k hk]
theorem drewN_below (w : World) (n : Nat) : Below w.heap.size w (w.drewN n) := ⟨rfl, rfl, rfl, Nat.le_refl _, fun _ _ => rfl⟩

theorem fit_new (c p most : Nat) (hc : 16 ≤ c) (hp : 1 ≤ p ∧ p ≤ 4096) : fitB (c : Int) (p : Int) (most : Int) = !decide (16 < c ∧ most < c + 16 + p) := by
  unfold fitB
  rw [Bool.eq_iff_iff]
  simp only [Bool.and_eq_true, Bool.or_eq_true, decide_eq_true_eq, beq_iff_eq, Bool.not_eq_true', decide_eq_false_iff_not]
  omega
set_option maxRecDepth 100000 in
set_option maxHeartbeats 6400000 in
theorem segsS_in (n : Nat) (f len cap most : Nat) (oa : Option Addr) (z : List ByteArray) (hm : 64 ≤ most ∧ most ≤ 65536) (l b c zb : Nat) (w : World)
    (J : (Nat → Prop) → List ByteArray → World → Prop) (Jx : World → Prop)
    (hJ : ∀ E s A B, J E s A → KeepX E A B → J (growE E A B) s B)
    (hY : ∀ E pre x W1, (spB most f z)[pre.length]? = some x → J E pre W1 → YieldAt Fence.wide (n - 1) Tryz.prog l (encS x) W1 fun e W' => (e = .returned (.bool true) ∧ J E (pre ++ [x]) W' ∧ (∀ k, E k ∨ k < zb → W'.heap[k]? = W1.heap[k]?)) ∨ (e = .returned (.bool false) ∧ Jx W'))
    (hb0 : w.heap[b]? = some (.cells #[.int .i64 f] 2)) (hb1 : w.heap[b + 1]? = some (.cells #[.slice oa len cap] 23)) (hb2 : w.heap[b + 2]? = some (.cells #[.func (.func 49) #[] #[.pointer (some ⟨c, 0, none⟩)]] 82)) (hc : w.heap[c]? = some (.cells #[.int .i64 most] 3))
    (hz : StrsIn w oa len cap z) (hzb : ∀ bb off, oa = some ⟨bb, off, none⟩ → len ≠ 0 → bb < zb) (hbz : b + 3 ≤ zb) (hcz : c < zb) (hzw : zb ≤ w.heap.size) (hf : f + len ≤ 1048576) (hp : ∀ p ∈ z, payOk p.data.toList)
    (W : World) (hW : ∀ k, k < zb → W.heap[k]? = w.heap[k]?) (hWz : zb ≤ W.heap.size) (hJ0 : J (fun _ => False) [] W) :
    CallsIn Fence.wide n Tryz.prog 77 #[.func (.yield l) #[] #[], .pointer (some ⟨b, 0, none⟩), .pointer (some ⟨b + 1, 0, none⟩), .pointer (some ⟨b + 2, 0, none⟩)] W fun e W' => (∃ v, e = .returned v) ∧ ((∃ E xs, xs = spB most f z ∧ J E xs W') ∨ Jx W') := by
  have hlen : z.length = len := hz.1
  have hpl : ∀ l ∈ paysL z, payOk l := fun l hl => by
    unfold paysL at hl
    obtain ⟨p, hp', rfl⟩ := List.mem_map.1 hl
    exact hp p hp'
  have cw : ∀ k off, k < zb → W.cell? ⟨k, off, none⟩ = w.cell? ⟨k, off, none⟩ := fun k off hk => by unfold World.cell?; rw [hW k hk]
  have c0 : w.cell? ⟨b, 0, none⟩ = some (.int .i64 f) := by rw [cell_of_row _ _ _ _ _ _ hb0]; rfl
  have c1 : w.cell? ⟨b + 1, 0, none⟩ = some (.slice oa len cap) := by rw [cell_of_row _ _ _ _ _ _ hb1]; rfl
  have c2 : w.cell? ⟨b + 2, 0, none⟩ = some (.func (.func 49) #[] #[.pointer (some ⟨c, 0, none⟩)]) := by rw [cell_of_row _ _ _ _ _ _ hb2]; rfl
  have c3 : w.cell? ⟨c, 0, none⟩ = some (.int .i64 most) := by rw [cell_of_row _ _ _ _ _ _ hc]; rfl
  have k0 := (cw b 0 (by omega)).trans c0
  have l0 : b < W.heap.size := by omega
  have l1 : b + 1 < W.heap.size := by omega
  have l2 : b + 2 < W.heap.size := by omega
  have HY := Lib.hid hY
  have HP := Lib.hid hpl
  have HZ := Lib.hid hz
  have HZB := Lib.hid hzb
  have HL := Lib.hid hlen
  have C0 := Lib.hid c0
  have C1 := Lib.hid c1
  have C2 := Lib.hid c2
  have C3 := Lib.hid c3
  have HW := Lib.hid hW
  have HJ0 := Lib.hid hJ0
  clear hY hpl hz hzb hlen hb0 hb1 hb2 hc hp cw c0 c1 c2 c3 hW hJ0
  refine callsIn_of_wp Tryz.func77 rfl trivial ?_
  simp only [Tryz.ntmps77, List.size_toArray, List.length_cons, List.length_nil, Nat.reduceAdd, Nat.reduceSub, Array.replicate_succ, Array.replicate_zero, List.push_toArray, List.append_toArray, List.nil_append, List.cons_append]
  gi_wp2
  refine ⟨trivial, (fun h => by cases h), (callsIn_wide.2 (header_any f _ (by omega))).mono ?_⟩
  rintro e' w1 ⟨rfl, hw1⟩
  have hbel : Below W.heap.size W w1 := ((Below.refl _ _).alloc (Nat.le_refl _) (.cells #[.pointer none, .slice none 0 0] 112)).trans (hw1.mono (by simp))
  have hbk : w1.heap[W.heap.size]? = some (.cells #[.pointer none, .slice none 0 0] 112) := (hw1.block _ (by simp)).trans (heap_alloc_new _ _)
  have hz1 : W.heap.size < w1.heap.size := (Array.getElem?_eq_some_iff.1 hbk).1
  have hS1 : ItS J w zb W.heap.size (growE (fun _ => False) W w1) [] [] w1 := by
    refine ⟨hJ _ _ _ _ HJ0.out (KeepX.of_below hbel), fun j hj => (hbel.block j (by omega)).trans (HW.out j hj), fun k hk => hk.elim (fun h => h.elim) (fun e => by omega), by omega, ?_⟩
    exact ⟨_, _, .inl rfl, hbk, World.ownsRow_nil _ _ _ _, by simp [Value.ownBlock], .inr ⟨Nat.le_refl _, hz1⟩, fun k hk => by simp [Value.ownBlock] at hk⟩
  have HW1 := Lib.hid (xWrite _ W.heap.size [] (bs (hdrL f)) w1 hS1.2.2.2.2 (by rw [size_bs, hdr_len]; show 0 + 16 ≤ _; omega))
  have HS1 := Lib.hid hS1
  clear hw1 hbk hz1 hS1 hbel k0
  gi_wp2
  refine ⟨trivial, (fun h => by cases h), (callsIn_wide.2 HW1.out).mono ?_⟩
  rintro e' w2 ⟨rfl, hk2, hx2⟩
  rw [bs_data, List.nil_append] at hx2
  have hS2 := HS1.out.turn hJ hk2 hx2
  have k1 := (hS2.cell (k := b + 1) (off := 0) (by omega)).trans C1.out
  have HS2 := Lib.hid (show ∃ E, ItS J w zb W.heap.size E (((spK most f (paysL z) 0).1).map bs) (spK most f (paysL z) 0).2 w2 from ⟨_, hS2⟩)
  clear HW1 HS1 hk2 hx2 hS2
  gi_wp2
  gi_loopw [16] (fun iv wr => ∃ k : Nat, k ≤ len ∧ iv = .int .i64 k ∧ ∃ E, ItS J w zb W.heap.size E (((spK most f (paysL z) k).1).map bs) (spK most f (paysL z) k).2 wr) (fun iv _ => len - (intOf iv).toNat)
  case atStart => exact ⟨0, Nat.zero_le _, rfl, HS2.out⟩
  case round =>
    obtain ⟨k, hk, rfl, E, hS⟩ := hrel
    have HS := Lib.hid hS
    clear HS2 hS k1
    by_cases hin : k < len
    · have hkl : k < (paysL z).length := by rw [pays_len, HL.out]; exact hin
      have hpg := pays_get z k (by rw [HL.out]; exact hin) hkl
      have hcur := spK_cur most f (paysL z) HP.out k (by omega)
      have hsucc := spK_succ most f (paysL z) k hkl
      have hget := spL_get most f (paysL z) k hkl
      have hpk := HP.out _ (List.getElem_mem hkl)
      rw [hpg] at hsucc hget hpk
      obtain ⟨p, hpe⟩ : ∃ p, z.getD k ByteArray.empty = p := ⟨_, rfl⟩
      rw [hpe] at hsucc hget hpk
      have hps : p.data.toList.length = p.size := rfl
      unfold payOk at hpk
      rw [hps] at hpk hget
      obtain ⟨_, _, _, _, hcl⟩ := HZ.out
      rcases hcl with h0 | ⟨bb, off, rfl, hbb, hcc⟩
      · omega
      have x0 := (HS.out.cell (k := bb) (off := off + k) (HZB.out bb off rfl (by omega))).trans (hcc k hin)
      rw [hpe] at x0
      have y0 := (HS.out.cell (k := b) (off := 0) (by omega)).trans C0.out
      have y2 := (HS.out.cell (k := b + 2) (off := 0) (by omega)).trans C2.out
      have y3 := (HS.out.cell (k := c) (off := 0) hcz).trans C3.out
      have hmk := fun w => make_any ((f : Int) + (k : Int)) p w (by omega)
      have hmE : mkE ((f : Int) + (k : Int)) p = 0 := by unfold mkE; rw [if_neg (by omega), if_neg (by omega), if_neg (by omega)]
      have hmS : mkS ((f : Int) + (k : Int)) p = bs (frm (f + k) p.data.toList) := by unfold mkS; rw [if_pos hmE, show ((f : Int) + (k : Int)).toNat = f + k by omega]
      rw [hmE, hmS] at hmk
      have hwr : IntKind.i64.wrap ((f : Int) + (k : Int)) = (f : Int) + (k : Int) := IntWalk.i64_in _ (by omega)
      obtain ⟨fr, hfr⟩ : ∃ fr, frm (f + k) p.data.toList = fr := ⟨_, rfl⟩
      have hfl : fr.length = 16 + p.size := by rw [← hfr, frm_len, hps]
      rw [hfr] at hmk
      unfold spStep at hsucc
      rw [hps, hfr] at hsucc
      obtain ⟨D, cur, hDc⟩ : ∃ D cur, spK most f (paysL z) k = (D, cur) := ⟨_, _, rfl⟩
      rw [hDc] at hcur hsucc hget HS
      dsimp only at hcur hsucc hget HS
      have hfit : fitB (cur.length : Int) (p.size : Int) (most : Int) = !decide (16 < cur.length ∧ most < cur.length + 16 + p.size) := by
        exact fit_new _ _ _ hcur.1 hpk
      have hcb : cur.length ≤ 4311746576 := by omega
      have HMK := Lib.hid hmk
      have HSU := Lib.hid hsucc
      have HG := Lib.hid hget
      have HFL := Lib.hid hfl
      have HCU := Lib.hid hcur
      have hSP := fun (wq : World) (hq : wq.cell? ⟨c, 0, none⟩ = some (.int .i64 most)) => split1_any (cur.length : Int) (p.size : Int) c (most : Int) (by omega) (by omega) wq hq
      rw [hfit] at hSP
      clear hmk hsucc hget hcur hpg hmE hmS hkl hDc hfit hcc hpe hfr
      have HLN := Lib.hid (fun (wq : World) (hq : Lib.IsBuilder 112 5 0 W.heap.size (Lib.byteCells cur) wq) => (show Calls Tryz.prog 79 #[.pointer (some ⟨W.heap.size, 0, none⟩)] wq fun e w' => e = .returned (.int .i64 (cur.length : Int)) ∧ w' = wq by
        have := Tryz.Builder_Len 0 W.heap.size (Lib.byteCells cur) wq hq
        rw [Lib.byteCells_length] at this
        exact this))
      have HH := Lib.hid (fun (wq : World) => (show Calls Tryz.prog 41 #[.int .i64 ((f : Int) + (k : Int))] wq fun e w' => e = .returned (.string (bs (hdrL (f + k)))) ∧ Below wq.heap.size wq w' by
        have := header_any (f + k) wq (by omega)
        rw [Int.natCast_add] at this
        exact this))
      have hfb : fr.length ≤ 4112 := by omega
      clear hfl
      by_cases hnew : 16 < cur.length ∧ most < cur.length + 16 + p.size
      · rw [decide_eq_true hnew] at hSP
        rw [if_pos hnew] at HSU
        have HSP := Lib.hid hSP
        have HGN := Lib.hid (HG.out hnew)
        have hne : cur ≠ [] := fun e => by rw [e] at hnew; simp at hnew
        have HNE := Lib.hid hne
        have HFB := Lib.hid hfb
        clear hSP hnew HG HCU hne hfb hcb hpk hps
        gi_wp2
        refine wpIn_wide.2 ?_
        go_quiet ((first | (go_at_call 79; exact Calls.quiet_of_same (HLN.out _ HS.out.2.2.2.2.isb)) | (go_at_call 49; exact Calls.quiet_of_same (HSP.out _ y3))))
        gi_wp2
        have hS1 := HS.out.below hJ (drewN_below wr nq)
        have HS1 := Lib.hid hS1
        refine ⟨trivial, (fun h => by cases h), (callsIn_wide.2 (xString _ W.heap.size cur (wr.drewN nq) hS1.2.2.2.2 HNE.out)).mono ?_⟩
        rintro e' w3 ⟨rfl, hk3, p0, v0, hb3⟩
        have hj3 := hJ _ _ _ _ HS1.out.1 hk3
        obtain ⟨fn, tmps, assign, body, hy, hR⟩ := HY.out _ (D.map bs) (bs cur) w3 (by unfold spB; rw [List.length_map, List.getElem?_map, HGN.out]; rfl) hj3
        unfold encS bs at hy
        have HK3 := Lib.hid (⟨hk3, hb3⟩ : KeepX _ (wr.drewN nq) w3 ∧ w3.heap[W.heap.size]? = some (.cells #[p0, v0] 112))
        clear hS1 hk3 hb3 hj3 x0 y0 y2 y3
        gi_wp2
        refine ⟨(fun h => by cases h), hR.mono ?_⟩
        clear hR hy
        rintro e W3 (⟨rfl, hj4, hz4⟩ | ⟨rfl, hx⟩)
        · obtain ⟨hk3, hb3⟩ := HK3.out
          obtain ⟨_, a2, a3, a4, a5⟩ := HS1.out
          have hb4 : W3.heap[W.heap.size]? = some (.cells #[p0, v0] 112) := (hz4 _ (.inl (.inl a5.own))).trans hb3
          have hag : ∀ j, j < zb → W3.heap[j]? = w.heap[j]? := fun j hj => (hz4 j (.inr hj)).trans ((hk3.block j (by omega) (fun e => by have := a3 j e; omega)).trans (a2 j hj))
          have he3 : ∀ k, growE (growE E wr (wr.drewN nq)) (wr.drewN nq) w3 k → zb ≤ k := fun k hk => hk.elim (a3 k) (fun e => by omega)
          have hz3 : zb ≤ W3.heap.size := by
            rcases Nat.lt_or_ge W3.heap.size zb with h | h
            · have h1 := hag W3.heap.size h
              have h2 : W3.heap.size < w.heap.size := by omega
              rw [Array.getElem?_eq_none (Nat.le_refl _), Array.getElem?_eq_getElem h2] at h1
              cases h1
            · exact h
          have hR4 := xReset (growE (growE E wr (wr.drewN nq)) (wr.drewN nq) w3) W.heap.size p0 v0 W3 hb4 (.inl a5.own)
          have HR4 := Lib.hid hR4
          have HA := Lib.hid (⟨hj4, hag, he3, hz3⟩ : J _ (D.map bs ++ [bs cur]) W3 ∧ (∀ j, j < zb → W3.heap[j]? = w.heap[j]?) ∧ (∀ k, growE (growE E wr (wr.drewN nq)) (wr.drewN nq) w3 k → zb ≤ k) ∧ zb ≤ W3.heap.size)
          clear hk3 hb3 a2 a3 a4 a5 hb4 hag he3 hz3 hR4 hj4 hz4 HK3 HS1
          gi_wp2
          refine ⟨trivial, (fun h => by cases h), (callsIn_wide.2 HR4.out).mono ?_⟩
          rintro e' w4 ⟨rfl, hk4, hx4⟩
          obtain ⟨hj4, hag, he3, hz3⟩ := HA.out
          have hS4 : ItS J w zb W.heap.size (growE (growE (growE E wr (wr.drewN nq)) (wr.drewN nq) w3) W3 w4) (D.map bs ++ [bs cur]) [] w4 :=
            ⟨hJ _ _ _ _ hj4 hk4, fun j hj => (hk4.block j (by omega) (fun e => by have := he3 j e; omega)).trans (hag j hj), fun k hk => hk.elim (he3 k) (fun e => by omega), Nat.le_trans hz3 hk4.size, hx4⟩
          have HS4 := Lib.hid hS4
          clear HR4 HA hj4 hag he3 hz3 hk4 hx4 hS4
          gi_wp2
          refine ⟨trivial, (fun h => by cases h), (callsIn_wide.2 (HH.out _)).mono ?_⟩
          rintro e' w5 ⟨rfl, hb5⟩
          have hS5 := HS4.out.below hJ hb5
          have HW5 := Lib.hid (xWrite _ W.heap.size [] (bs (hdrL (f + k))) w5 hS5.2.2.2.2 (by rw [size_bs, hdr_len]; show 0 + 16 ≤ _; omega))
          have HS5 := Lib.hid hS5
          clear hb5 hS5 HS4
          gi_wp2
          refine ⟨trivial, (fun h => by cases h), (callsIn_wide.2 HW5.out).mono ?_⟩
          rintro e' w6 ⟨rfl, hk6, hx6⟩
          rw [bs_data, List.nil_append] at hx6
          have HS6 := Lib.hid (HS5.out.turn hJ hk6 hx6)
          clear hk6 hx6 HS5 HW5
          gi_wp2
          refine ⟨trivial, (fun h => by cases h), (callsIn_wide.2 (HMK.out _)).mono ?_⟩
          rintro e' w7 ⟨rfl, hb7⟩
          have hS7 := HS6.out.below hJ hb7
          have HW7 := Lib.hid (xWrite _ W.heap.size (hdrL (f + k)) (bs fr) w7 hS7.2.2.2.2 (by rw [size_bs, hdr_len]; have := HFB.out; omega))
          have HS7 := Lib.hid hS7
          clear hb7 hS7 HS6
          gi_wp2
          refine ⟨trivial, (fun h => by cases h), (callsIn_wide.2 HW7.out).mono ?_⟩
          rintro e' w8 ⟨rfl, hk8, hx8⟩
          rw [bs_data] at hx8
          have HS8 := Lib.hid (HS7.out.turn hJ hk8 hx8)
          clear hk8 hx8 HS7 HW7
          gi_wp2
          refine ⟨⟨k + 1, by omega, rfl, _, by rw [HSU.out, List.map_append]; exact HS8.out⟩, ?_⟩
          simp [intOf]; omega
        · have HX := Lib.hid hx
          clear hx HS1 HK3
          gi_wp2
          refine bodyPost_ret (results_none rfl _ _ _) rfl ?_
          exact ⟨⟨_, rfl⟩, .inr HX.out⟩
      · rw [decide_eq_false hnew] at hSP
        rw [if_neg hnew] at HSU
        have HSP := Lib.hid hSP
        have HFB := Lib.hid (show cur.length + fr.length ≤ 100000000000 by omega)
        clear hSP hnew HG HCU hfb hcb hpk hps
        gi_wp2
        refine wpIn_wide.2 ?_
        go_quiet ((first | (go_at_call 79; exact Calls.quiet_of_same (HLN.out _ HS.out.2.2.2.2.isb)) | (go_at_call 49; exact Calls.quiet_of_same (HSP.out _ y3))))
        gi_wp2
        have HS1 := Lib.hid (HS.out.below hJ (drewN_below wr nq))
        refine ⟨trivial, (fun h => by cases h), (callsIn_wide.2 (HMK.out _)).mono ?_⟩
        rintro e' w7 ⟨rfl, hb7⟩
        have hS7 := HS1.out.below hJ hb7
        have HW7 := Lib.hid (xWrite _ W.heap.size cur (bs fr) w7 hS7.2.2.2.2 (by rw [size_bs]; exact HFB.out))
        have HS7 := Lib.hid hS7
        clear hb7 hS7 HS1
        gi_wp2
        refine ⟨trivial, (fun h => by cases h), (callsIn_wide.2 HW7.out).mono ?_⟩
        rintro e' w8 ⟨rfl, hk8, hx8⟩
        rw [bs_data] at hx8
        have HS8 := Lib.hid (HS7.out.turn hJ hk8 hx8)
        clear hk8 hx8 HS7 HW7
        gi_wp2
        refine ⟨⟨k + 1, by omega, rfl, _, by rw [HSU.out]; exact HS8.out⟩, ?_⟩
        simp [intOf]; omega
    · obtain rfl : k = len := by omega
      have hcur := spK_cur most f (paysL z) HP.out k (by rw [pays_len, HL.out]; exact Nat.le_refl _)
      have hlast := spL_last most f (paysL z)
      rw [pays_len, HL.out] at hlast
      have hall := spK_all most f (paysL z)
      rw [pays_len, HL.out] at hall
      obtain ⟨D, cur, hDc⟩ : ∃ D cur, spK most f (paysL z) k = (D, cur) := ⟨_, _, rfl⟩
      rw [hDc] at hcur hlast hall HS
      dsimp only at hcur hlast hall HS
      have hne : cur ≠ [] := fun e => by rw [e] at hcur; simp at hcur
      have HLA := Lib.hid hlast
      have HAL := Lib.hid hall
      have HXS := Lib.hid (xString E W.heap.size cur wr HS.out.2.2.2.2 hne)
      clear hcur hlast hall hDc hne
      gi_wp2
      refine ⟨trivial, (fun h => by cases h), (callsIn_wide.2 HXS.out).mono ?_⟩
      rintro e' w3 ⟨rfl, hk3, p0, v0, hb3⟩
      have hj3 := hJ _ _ _ _ HS.out.1 hk3
      obtain ⟨fn, tmps, assign, body, hy, hR⟩ := HY.out _ (D.map bs) (bs cur) w3 (by unfold spB; rw [List.length_map, List.getElem?_map, HLA.out]; rfl) hj3
      unfold encS bs at hy
      clear hk3 hb3 hj3
      gi_wp2
      refine ⟨(fun h => by cases h), hR.mono ?_⟩
      clear hR hy
      rintro e W3 (⟨rfl, hj4, hz4⟩ | ⟨rfl, hx⟩)
      · have HJ4 := Lib.hid hj4
        clear hj4 hz4
        gi_wp2
        go_end0
        exact ⟨⟨_, rfl⟩, .inl ⟨_, _, by unfold spB; rw [HAL.out, List.map_append]; rfl, HJ4.out⟩⟩
      · have HX := Lib.hid hx
        clear hx
        gi_wp2
        go_end0
        exact ⟨⟨_, rfl⟩, .inr HX.out⟩
end Go.Proofs.YtaonjbkkgeiniaaGreatDoor
