/- The walk over FrameBack (printed by gen_fback.py). -/
import Derived.Test.YtkgcjelipllpdaaFrameBackL
import Derived.Laws.MakeOwn
import Derived.BigRegion
import Derived.BigQuiet
import Derived.Deep.QuietTactic
import Derived.OpenShut
import Derived.Deep.DeepCutAuto
import Derived.Deep.CutBlock
import Derived.IntWalk
import Derived.Deep.DeepCutAuto
import Derived.WalkSmall
namespace Go.Proofs.Ytkgcjelipllpdaa
open Go.RowKit

theorem from_lt (a : Int) (n : Int) (h0 : 0 < n) (hn : n ≤ 1000000000) : ∃ f : Nat, wrap64 ((IntKind.u64.wrap a).tmod n) = f ∧ (f : Int) < n := by
  have h1 : 0 ≤ IntKind.u64.wrap a := by rw [IntKind.wrap_u64]; omega
  have h2 : (IntKind.u64.wrap a).tmod n = IntKind.u64.wrap a % n := Int.tmod_eq_emod_of_nonneg h1
  have h3 : 0 ≤ IntKind.u64.wrap a % n := Int.emod_nonneg _ (by omega)
  have h4 : IntKind.u64.wrap a % n < n := Int.emod_lt_of_pos _ (by omega)
  rw [h2]
  generalize IntKind.u64.wrap a % n = x at *
  refine ⟨x.toNat, ?_, by omega⟩
  unfold wrap64
  omega

theorem infoI : (Try.prog.info? 3).map (fun i => (i.zero, i.size, i.bytes)) = some (some (.int .i64 0), 1, 8) := by kernel_rfl
/-- one integer more in a slice of the call's own -/
theorem app_int {ops : Array Oper} {rest : List Oper} {o : Oper} {a : Act} {Q : Exit → Act → World → Prop} {W : World} {B n : Nat} {v : Value} {xs : List Value} (hgd : o.guard = none) (s x : Operand)
    (ho : o.op = .call { callee := .builtin .append, args := #[s, x], argTypes := #[40, 40] }) (y : Int) (hs : a.eval s = v) (hx : a.eval x = .slice (some ⟨W.heap.size, 0, none⟩) 1 1)
    (hown : W.ownsRow B 3 1 v n xs) (hB : B ≤ W.heap.size) (hn : n ≤ 8796093021952)
    (hK : ∀ v' w1, w1.ownsRow B 3 1 v' (n + 1) (xs ++ [.int .i64 y]) → (∀ w0, Below B w0 W → Below B w0 w1) → wpList Try.prog ops Q rest (a.put o.dst v') w1) :
    wpList Try.prog ops Q (o :: rest) a (W.alloc (.cells #[.int .i64 y] 3)) := by
  obtain ⟨i0, hi, hz0, hz1, hz2⟩ := info_parts infoI
  refine wpList_append_own _ hgd s x 40 ho B 3 i0 (.int .i64 0) 1 8 Try.underlying40 hi hz0 hz1 hz2 rfl (by decide) v n xs hs (hown.alloc _) ⟨W.heap.size, 0, none⟩ 1 1 [.int .i64 y] hx rfl
    ?_ (by intro u hu; simp at hu; subst hu; rfl) (by unfold maxLen; omega) (by omega) (by simp; omega) ?_
  · intro j u hj
    match j, hj with
    | 0, hj => simp at hj; subst hj; simp [Addr.add]
  · intro v' w1 h1 hg _
    refine hK v' w1 h1 fun w0 hb => ?_
    exact (hb.alloc hB _).grown hg (by simp; omega) (fun k e => by have := (hown.lt k e).1; omega)

theorem grown_own {W w' : World} {B : Nat} {t : TypeId} {k n : Nat} {v : Value} {xs : List Value} (h : W.ownsRow B t k v n xs) (hb : Below W.heap.size W w') : w'.ownsRow B t k v n xs :=
  ⟨h.1, h.2.imp id (fun ⟨g, c, cur, e1, e2, e3, e4⟩ => ⟨g, c, cur, e1, e2, by rw [hb.block g (Array.getElem?_eq_some_iff.1 e3).1]; exact e3, e4⟩)⟩

theorem get_left {xs ys : List Value} {j : Nat} {v : Value} (h : xs[j]? = some v) : (xs ++ ys)[j]? = some v := by rw [List.getElem?_append_left (List.getElem?_eq_some_iff.1 h).1, h]
theorem scan_nil (s : ByteArray) (f : Int) (hs : s.data.toList = []) (w : World) :
    Calls Try.prog 12 #[.string s, .int .i64 0, .int .i64 f] w fun e w' => ∃ oa cap, e = .returned (.tuple #[.slice oa 0 cap, .int .i64 0]) ∧ Below w.heap.size w w' := by
  refine (scan_ps s f [] w (by rw [← len_data, hs]; decide) trivial hs).mono ?_
  rintro e w' ⟨oa, cap, rfl, _, hb⟩
  exact ⟨oa, cap, rfl, hb⟩
theorem scan_free (X : ByteArray) (f : Int) (hX : X.size ≤ 1000000) (w : World) :
    Calls Try.prog 12 #[.string X, .int .i64 0, .int .i64 f] w fun e w' => ∃ oa n cap good, e = .returned (.tuple #[.slice oa n cap, .int .i64 (good : Nat)]) ∧ Below w.heap.size w w' := by
  refine (scan_more X f [] w hX trivial X.data.toList rfl).mono ?_
  rintro e w' ⟨oa, n, cap, good, ys, rfl, _, _, _, hb⟩
  exact ⟨oa, n, cap, good, rfl, hb⟩
/-- the payloads as lists -/
def psOf (zs : List ByteArray) : List (List UInt8) := zs.map fun s => s.data.toList
theorem ps_len (zs : List ByteArray) : (psOf zs).length = zs.length := by unfold psOf; simp
theorem ps_get (zs : List ByteArray) (k : Nat) (h : k < zs.length) (h' : k < (psOf zs).length) : (psOf zs)[k] = (zs.getD k ByteArray.empty).data.toList := by
  have e : (psOf zs)[k] = zs[k].data.toList := List.getElem_map (fun s : ByteArray => s.data.toList)
  rw [e, List.getD_eq_getElem?_getD, List.getElem?_eq_getElem h]; rfl

/-- the first loop's count, one payload on -/
theorem sum_succ (zs : List ByteArray) (k : Nat) (h : k < zs.length) : sizeF ((psOf zs).take (k + 1)) = sizeF ((psOf zs).take k) + (16 + (zs.getD k ByteArray.empty).size) := by
  rw [size_take_succ _ _ (by rw [ps_len]; exact h), ps_get zs k h (by rw [ps_len]; exact h)]; rfl

set_option maxRecDepth 100000 in
set_option maxHeartbeats 8000000 in
theorem back_much (b off len cap : Nat) (zs : List ByteArray) (f cut : Int) (x : ByteArray) (w : World) (hzl : zs.length = len) (hlen : len ≤ 8796093021952) (hcells : ∀ j, j < len → w.cell? ⟨b, off + j, none⟩ = some (.string (zs.getD j ByteArray.empty))) (hss : ∀ s ∈ zs, s.size ≤ 140737488351232) (hm : 12000 ≤ sizeF (psOf zs)) :
    Calls Try.prog 4 #[.slice (some ⟨b, off, none⟩) len cap, .int .i64 f, .int .i64 cut, .string x] w fun e w' => e = .returned (.bool true) ∧ Below w.heap.size w w' := by
  have HC := Lib.hid hcells
  have HSS := Lib.hid hss
  clear hcells hss
  go_enter Try.func4, Try.ntmps4
  go_wp2_with fail
  go_loop [9, 10] (fun n i => ∃ k : Nat, k ≤ len ∧ i = .int .i64 k ∧ n = .int .i64 (sizeF ((psOf zs).take k) : Nat) ∧ (k = 0 ∨ sizeF ((psOf zs).take (k - 1)) < 12000)) (fun _ i => len - (intOf i).toNat)
  case atStart => exact ⟨0, Nat.zero_le _, rfl, rfl, .inl rfl⟩
  case round =>
    obtain ⟨k, hk, rfl, rfl, hprev⟩ := hrel
    have hmax : sizeF ((psOf zs).take k) ≤ 140737488400000 := by
      rcases hprev with rfl | hp
      · show 0 ≤ _; omega
      · by_cases h0 : k = 0
        · subst h0; show 0 ≤ _; omega
        · have h1 := sum_succ zs (k - 1) (by omega)
          rw [show k - 1 + 1 = k by omega] at h1
          have h2 := HSS.out (zs.getD (k - 1) ByteArray.empty) (by rw [List.getD_eq_getElem?_getD, List.getElem?_eq_getElem (by omega)]; exact List.getElem_mem _)
          omega
    by_cases hgo : k < len ∧ sizeF ((psOf zs).take k) < 12000
    · obtain ⟨hlt, h12⟩ := hgo
      have hsucc := sum_succ zs k (by omega)
      have hcell := HC.out k hlt
      obtain ⟨s, es⟩ : ∃ s, zs.getD k ByteArray.empty = s := ⟨_, rfl⟩
      have hs := HSS.out (zs.getD k ByteArray.empty) (by rw [List.getD_eq_getElem?_getD, List.getElem?_eq_getElem (by omega)]; exact List.getElem_mem _)
      rw [es] at hsucc hcell hs
      obtain ⟨n, en⟩ : ∃ n, sizeF ((psOf zs).take k) = n := ⟨_, rfl⟩
      rw [en] at hsucc hmax h12 ⊢
      have hd1 : decide ((k : Int) < (len : Int)) = true := decide_eq_true (by omega)
      have hd2 : decide ((n : Int) < 12000) = true := decide_eq_true (by omega)
      have HS := Lib.hid hsucc
      have HN := Lib.hid en
      clear hsucc en es
      go_wp2_with fail
      go_round
      case rel => exact ⟨k + 1, by omega, by go_num, by rw [HS.out]; go_num, .inr (by rw [Nat.add_sub_cancel, HN.out]; exact h12)⟩
      case measure => simp [intOf]; omega
    · have hn : 12000 ≤ sizeF ((psOf zs).take k) := by
        by_cases hlt : k < len
        · omega
        · rw [List.take_of_length_le (by rw [ps_len]; omega)]; exact hm
      obtain ⟨n, en⟩ : ∃ n, sizeF ((psOf zs).take k) = n := ⟨_, rfl⟩
      rw [en] at hmax hn ⊢
      have hd1 : decide ((n : Int) < 12000) = false := decide_eq_false (by omega)
      have hd2 : decide ((12000 : Int) ≤ (n : Int)) = true := decide_eq_true (by omega)
      clear en hgo hm
      go_wp2_with fail
      all_goals
        refine (works_any _).mono ?_
        rintro e w1 ⟨rfl, hb1⟩
        go_wp2_with fail
        refine (works_any _).mono ?_
        rintro e w2 ⟨rfl, hb2⟩
        go_wp2_with fail
        go_ret
        exact ⟨rfl, bel_trans hb1 hb2⟩

set_option maxRecDepth 100000 in
set_option maxHeartbeats 8000000 in
theorem back_far (b off len cap : Nat) (zs : List ByteArray) (f cut : Int) (x : ByteArray) (w : World) (hzl : zs.length = len) (hlen : len ≤ 8796093021952) (hcells : ∀ j, j < len → w.cell? ⟨b, off + j, none⟩ = some (.string (zs.getD j ByteArray.empty))) (hss : ∀ s ∈ zs, s.size ≤ 140737488351232) (hm : sizeF (psOf zs) < 12000) (hx : 3000 < x.size) :
    Calls Try.prog 4 #[.slice (some ⟨b, off, none⟩) len cap, .int .i64 f, .int .i64 cut, .string x] w fun e w' => e = .returned (.bool true) ∧ Below w.heap.size w w' := by
  have HC := Lib.hid hcells
  have HSS := Lib.hid hss
  clear hcells hss
  go_enter Try.func4, Try.ntmps4
  go_wp2_with fail
  go_loop [9, 10] (fun n i => ∃ k : Nat, k ≤ len ∧ i = .int .i64 k ∧ n = .int .i64 (sizeF ((psOf zs).take k) : Nat) ∧ (k = 0 ∨ sizeF ((psOf zs).take (k - 1)) < 12000)) (fun _ i => len - (intOf i).toNat)
  case atStart => exact ⟨0, Nat.zero_le _, rfl, rfl, .inl rfl⟩
  case round =>
    obtain ⟨k, hk, rfl, rfl, hprev⟩ := hrel
    have hmax : sizeF ((psOf zs).take k) ≤ 140737488400000 := by
      rcases hprev with rfl | hp
      · show 0 ≤ _; omega
      · by_cases h0 : k = 0
        · subst h0; show 0 ≤ _; omega
        · have h1 := sum_succ zs (k - 1) (by omega)
          rw [show k - 1 + 1 = k by omega] at h1
          have h2 := HSS.out (zs.getD (k - 1) ByteArray.empty) (by rw [List.getD_eq_getElem?_getD, List.getElem?_eq_getElem (by omega)]; exact List.getElem_mem _)
          omega
    by_cases hgo : k < len ∧ sizeF ((psOf zs).take k) < 12000
    · obtain ⟨hlt, h12⟩ := hgo
      have hsucc := sum_succ zs k (by omega)
      have hcell := HC.out k hlt
      obtain ⟨s, es⟩ : ∃ s, zs.getD k ByteArray.empty = s := ⟨_, rfl⟩
      have hs := HSS.out (zs.getD k ByteArray.empty) (by rw [List.getD_eq_getElem?_getD, List.getElem?_eq_getElem (by omega)]; exact List.getElem_mem _)
      rw [es] at hsucc hcell hs
      obtain ⟨n, en⟩ : ∃ n, sizeF ((psOf zs).take k) = n := ⟨_, rfl⟩
      rw [en] at hsucc hmax h12 ⊢
      have hd1 : decide ((k : Int) < (len : Int)) = true := decide_eq_true (by omega)
      have hd2 : decide ((n : Int) < 12000) = true := decide_eq_true (by omega)
      have HS := Lib.hid hsucc
      have HN := Lib.hid en
      clear hsucc en es
      go_wp2_with fail
      go_round
      case rel => exact ⟨k + 1, by omega, by go_num, by rw [HS.out]; go_num, .inr (by rw [Nat.add_sub_cancel, HN.out]; exact h12)⟩
      case measure => simp [intOf]; omega
    · obtain rfl : k = len := by
        by_cases hlt : k < len
        · have := size_take_le (psOf zs) k; omega
        · omega
      have hn := size_take_le (psOf zs) k
      obtain ⟨n, en⟩ : ∃ n, sizeF ((psOf zs).take k) = n := ⟨_, rfl⟩
      rw [en] at hmax hn ⊢
      have hd1 : decide ((12000 : Int) ≤ (n : Int)) = false := decide_eq_false (by omega)
      have hd2 : decide ((3000 : Int) < (x.size : Int)) = true := decide_eq_true (by omega)
      clear en hgo hm
      go_wp2_with fail
      refine (works_any _).mono ?_
      rintro e w1 ⟨rfl, hb1⟩
      go_wp2_with fail
      refine (works_any _).mono ?_
      rintro e w2 ⟨rfl, hb2⟩
      go_wp2_with fail
      go_ret
      exact ⟨rfl, bel_trans hb1 hb2⟩

set_option maxRecDepth 100000 in
set_option maxHeartbeats 8000000 in
theorem back_main (b off len cap : Nat) (zs : List ByteArray) (f cut : Int) (x : ByteArray) (w : World) (hzl : zs.length = len) (hlen : len ≤ 8796093021952) (hcells : ∀ j, j < len → w.cell? ⟨b, off + j, none⟩ = some (.string (zs.getD j ByteArray.empty))) (hbw : b < w.heap.size) (hss : ∀ s ∈ zs, s.size ≤ 140737488351232) (hf0 : -9223372036854775808 ≤ f) (hf1 : f ≤ 9223372036854775807) (hm : sizeF (psOf zs) < 12000) (hx : x.size ≤ 3000) :
    Calls Try.prog 4 #[.slice (some ⟨b, off, none⟩) len cap, .int .i64 f, .int .i64 cut, .string x] w fun e w' => e = .returned (.bool true) ∧ Below w.heap.size w w' := by
  have HC := Lib.hid hcells
  have HSS := Lib.hid hss
  clear hcells hss
  go_enter Try.func4, Try.ntmps4
  go_wp2_with fail
  go_loop [9, 10] (fun n i => ∃ k : Nat, k ≤ len ∧ i = .int .i64 k ∧ n = .int .i64 (sizeF ((psOf zs).take k) : Nat) ∧ (k = 0 ∨ sizeF ((psOf zs).take (k - 1)) < 12000)) (fun _ i => len - (intOf i).toNat)
  case atStart => exact ⟨0, Nat.zero_le _, rfl, rfl, .inl rfl⟩
  case round =>
    obtain ⟨k, hk, rfl, rfl, hprev⟩ := hrel
    have hmax : sizeF ((psOf zs).take k) ≤ 140737488400000 := by
      rcases hprev with rfl | hp
      · show 0 ≤ _; omega
      · by_cases h0 : k = 0
        · subst h0; show 0 ≤ _; omega
        · have h1 := sum_succ zs (k - 1) (by omega)
          rw [show k - 1 + 1 = k by omega] at h1
          have h2 := HSS.out (zs.getD (k - 1) ByteArray.empty) (by rw [List.getD_eq_getElem?_getD, List.getElem?_eq_getElem (by omega)]; exact List.getElem_mem _)
          omega
    by_cases hgo : k < len ∧ sizeF ((psOf zs).take k) < 12000
    · obtain ⟨hlt, h12⟩ := hgo
      have hsucc := sum_succ zs k (by omega)
      have hcell := HC.out k hlt
      obtain ⟨s, es⟩ : ∃ s, zs.getD k ByteArray.empty = s := ⟨_, rfl⟩
      have hs := HSS.out (zs.getD k ByteArray.empty) (by rw [List.getD_eq_getElem?_getD, List.getElem?_eq_getElem (by omega)]; exact List.getElem_mem _)
      rw [es] at hsucc hcell hs
      obtain ⟨n, en⟩ : ∃ n, sizeF ((psOf zs).take k) = n := ⟨_, rfl⟩
      rw [en] at hsucc hmax h12 ⊢
      have hd1 : decide ((k : Int) < (len : Int)) = true := decide_eq_true (by omega)
      have hd2 : decide ((n : Int) < 12000) = true := decide_eq_true (by omega)
      have HS := Lib.hid hsucc
      have HN := Lib.hid en
      clear hsucc en es
      go_wp2_with fail
      go_round
      case rel => exact ⟨k + 1, by omega, by go_num, by rw [HS.out]; go_num, .inr (by rw [Nat.add_sub_cancel, HN.out]; exact h12)⟩
      case measure => simp [intOf]; omega
    · obtain rfl : k = len := by
        by_cases hlt : k < len
        · have := size_take_le (psOf zs) k; omega
        · omega
      have hn := size_take_le (psOf zs) k
      obtain ⟨n, en⟩ : ∃ n, sizeF ((psOf zs).take k) = n := ⟨_, rfl⟩
      rw [en] at hmax hn ⊢
      have hd1 : decide ((12000 : Int) ≤ (n : Int)) = false := decide_eq_false (by omega)
      have hd2 : decide ((3000 : Int) < (x.size : Int)) = false := decide_eq_false (by omega)
      have hn12 : n < 12000 := by omega
      clear en hgo hprev hmax hn
      go_wp2_with fail
      refine (works_any _).mono ?_
      rintro e w1 ⟨rfl, hb1⟩
      have HB1 := Lib.hid hb1
      have hsz1 := hb1.size
      clear hb1
      go_wp2_with fail
      go_loopw [11, 12, 13] (fun s v i wr => ∃ (j : Nat) (t : ByteArray), j ≤ k ∧ i = .int .i64 j ∧ s = .string t ∧ t.data.toList = joinF f ((psOf zs).take j) ∧ okF f ((psOf zs).take j) ∧ wr.ownsRow w1.heap.size 3 1 v j ((endsF (psOf zs) j).map (Value.int .i64)) ∧ Below w1.heap.size w1 wr) (fun _ _ i _ => k - (intOf i).toNat)
      case atStart => exact ⟨0, ⟨#[]⟩, Nat.zero_le _, rfl, rfl, rfl, trivial, World.ownsRow_nil _ _ _ _, Below.refl _ _⟩
      case round =>
        obtain ⟨j, t, hj, rfl, rfl, htd, hok, hown, hbl⟩ := hrel
        have HTD := Lib.hid htd
        have HOK := Lib.hid hok
        have HOWN := Lib.hid hown
        have HBL := Lib.hid hbl
        clear htd hok hown hbl
        have htsz : t.size = sizeF ((psOf zs).take j) := by rw [← len_data, HTD.out, join_len]
        have htle := size_take_le (psOf zs) j
        by_cases hlt : j < k
        · have hcell := (HBL.out.cell (p := ⟨b, off + j, none⟩) (by show b < _; omega)).trans ((HB1.out.cell (p := ⟨b, off + j, none⟩) hbw).trans (HC.out j hlt))
          have hsucc := sum_succ zs j (by omega)
          have hle2 := size_take_le (psOf zs) (j + 1)
          have hget := ps_get zs j (by omega) (by rw [ps_len]; omega)
          obtain ⟨s, es⟩ : ∃ s, zs.getD j ByteArray.empty = s := ⟨_, rfl⟩
          rw [es] at hsucc hcell hget
          have hjs := join_take_succ f (psOf zs) j (by rw [ps_len]; omega)
          have hos := ok_take_succ f (psOf zs) j (by rw [ps_len]; omega)
          rw [hget] at hjs hos
          have hfj0 : -9223372036854775808 ≤ f + (j : Int) := by omega
          have hfj1 : f + (j : Int) ≤ 9223372036854775807 := by
            by_cases h0 : j = 0
            · omega
            · have := ok_first HOK.out (by rw [List.length_take, ps_len]; omega)
              rw [List.length_take, ps_len] at this
              omega
          have hmk := fun w => make_any (f + j) s w (by omega)
          by_cases hE : mkE (f + j) s = 0
          · have hS : mkS (f + j) s = bs (frm (f + j).toNat s.data.toList) := by unfold mkS; rw [if_pos hE]
            obtain ⟨T, eT⟩ : ∃ T, bs (frm (f + j).toNat s.data.toList) = T := ⟨_, rfl⟩
            have hTd : T.data.toList = frm (f + j).toNat s.data.toList := by rw [← eT, bs_data]
            have hTs : T.size = 16 + s.size := by rw [← len_data, hTd, frm_len]; rfl
            rw [hS, hE, eT] at hmk
            rw [← hTd, ← HTD.out] at hjs
            have hok2 : okF f ((psOf zs).take (j + 1)) := by
              rw [hos]
              refine ⟨HOK.out, ?_⟩
              rw [len_data]
              unfold mkE at hE
              by_cases g1 : f + (j : Int) < 0 ∨ 1048576 ≤ f + (j : Int)
              · rw [if_pos g1] at hE; cases hE
              rw [if_neg g1] at hE
              by_cases g2 : s.size = 0
              · rw [if_pos g2] at hE; cases hE
              rw [if_neg g2] at hE
              by_cases g3 : 4096 < s.size
              · rw [if_pos g3] at hE; cases hE
              omega
            have hcat : ¬ 9223372036854775807 < t.size + T.size := by omega
            have HJS := Lib.hid hjs
            have HOK2 := Lib.hid hok2
            have HMK := Lib.hid hmk
            have HSZ := Lib.hid (show t.size + T.size = sizeF ((psOf zs).take (j + 1)) by omega)
            have ht2 : t.size ≤ 12000 := by omega
            have hT2 : T.size ≤ 12000 := by omega
            clear hjs hok2 hos hmk hS hE eT hTd hTs hget hsucc es htsz hle2 htle
            go_wp2_with fail
            refine (HMK.out _).mono ?_
            rintro e w2 ⟨rfl, hb2⟩
            have hz2 := hb2.size
            have hown2 := grown_own HOWN.out hb2
            have HOWN2 := Lib.hid hown2
            have HB2 := Lib.hid (bel_trans HBL.out hb2)
            have hsz2 : w1.heap.size ≤ w2.heap.size := HB2.out.size
            clear hown2 hb2 HOWN
            go_wp2_with (at_builtin; refine app_int rfl _ _ rfl ((t.size : Int) + (T.size : Int)) rfl rfl HOWN2.out hsz2 (by omega) ?_; intro v' w3 hown3 hbel3)
            go_roundw
            case rel =>
              refine ⟨j + 1, t ++ T, by omega, by go_num, rfl, ?_, HOK2.out, ?_, hbel3 _ HB2.out⟩
              · rw [data_app, HJS.out]
              · rw [ends_succ, List.map_append, ← HSZ.out]
                exact hown3
            case measure => simp [intOf]; omega
          · obtain ⟨E, eE⟩ : ∃ E, mkE (f + j) s = E := ⟨_, rfl⟩
            have hS : mkS (f + j) s = ⟨#[]⟩ := by unfold mkS; rw [if_neg hE]
            rw [eE] at hE
            simp only [hS, eE] at hmk
            have hE1 : ((E : Int) != 0) = true := by rw [bne_iff_ne]; omega
            have HMK := Lib.hid hmk
            clear hmk hS eE hjs hos hget hsucc es htsz
            go_wp2_with fail
            refine (HMK.out _).mono ?_
            rintro e w2 ⟨rfl, hb2⟩
            go_wp2_with fail
            go_ret
            exact ⟨rfl, bel_trans (bel_trans HB1.out HBL.out) hb2⟩
        · obtain rfl : j = k := by omega
          rw [List.take_of_length_le (by rw [ps_len]; omega)] at HTD HOK htsz
          have HTS := Lib.hid htsz
          have hts : t.size ≤ 12000 := by omega
          have HSC := Lib.hid (fun w => scan_ps t f (psOf zs) w (by omega) HOK.out HTD.out)
          have hpl : (psOf zs).length = j := by rw [ps_len]; exact hzl
          rw [hpl] at HSC
          have HPL := Lib.hid hpl
          obtain ⟨ea, ecap, rfl⟩ := row_shape HOWN.out
          clear htsz hpl
          go_wp2_with fail
          refine (HSC.out _).mono ?_
          rintro e w3 ⟨oa, lcap, rfl, hrow, hb3⟩
          have HROW := Lib.hid hrow
          have HB3 := Lib.hid hb3
          clear hrow hb3
          rw [← HTS.out]
          go_wp2_with fail
          have hz3 := HB3.out.size
          have hzw := HBL.out.size
          have HP := Lib.hid (fun (i : Nat) (hi : i < j) (W : World) (hW : Below w3.heap.size w3 W) => show W.cell? ⟨b, off + i, none⟩ = some (.string (zs.getD i ByteArray.empty)) from
            (hW.cell (p := ⟨b, off + i, none⟩) (by show b < _; omega)).trans ((HB3.out.cell (p := ⟨b, off + i, none⟩) (by show b < _; omega)).trans ((HBL.out.cell (p := ⟨b, off + i, none⟩) (by show b < _; omega)).trans ((HB1.out.cell (p := ⟨b, off + i, none⟩) hbw).trans (HC.out i hi)))))
          have HE3 := Lib.hid (grown_own HOWN.out HB3.out)
          have HW3 := Lib.hid (bel_trans (bel_trans HB1.out HBL.out) HB3.out)
          go_loopw [18, 19] (fun fr iv W => ∃ i : Nat, i ≤ j ∧ iv = .int .i64 i ∧ fr = .int .i64 (sizeF ((psOf zs).take i) : Nat) ∧ Below w3.heap.size w3 W) (fun _ iv _ => j - (intOf iv).toNat)
          case atStart => exact ⟨0, Nat.zero_le _, rfl, rfl, Below.refl _ _⟩
          case round =>
            obtain ⟨i, hi, rfl, rfl, hbl⟩ := hrel
            have HBI := Lib.hid hbl
            clear hbl
            by_cases hij : i < j
            · obtain ⟨g, rfl, hg, hg2, hrc⟩ := row_cells HROW.out (by omega)
              obtain ⟨ge, rfl, hge, hge2, hec⟩ := irow_cells HE3.out (by omega)
              obtain ⟨r1, r2, r3⟩ := rowF_get (psOf zs) f 0 i (by rw [HPL.out]; exact hij) HOK.out
              have e1 := (HBI.out.cell (p := ⟨ge, i, none⟩) hge).trans (hec i _ (ends_get (psOf zs) j i hij))
              have p0 := HP.out i hij _ HBI.out
              have q0 := (HBI.out.cell (p := ⟨g, 3 * i, none⟩) hg).trans (hrc _ _ r1)
              have q1 := (HBI.out.cell (p := ⟨g, 3 * i + 1, none⟩) hg).trans (hrc _ _ r2)
              have q2 := (HBI.out.cell (p := ⟨g, 3 * i + 2, none⟩) hg).trans (hrc _ _ r3)
              rw [ps_get zs i (by omega), bs_of] at q1
              rw [Nat.zero_add] at q2
              rw [Nat.mul_comm] at q0 q1 q2
              obtain ⟨s, es⟩ : ∃ s, zs.getD i ByteArray.empty = s := ⟨_, rfl⟩
              rw [es] at p0 q1
              obtain ⟨m, em⟩ : ∃ m, sizeF ((psOf zs).take i) = m := ⟨_, rfl⟩
              rw [em] at q2 ⊢
              obtain ⟨m', em'⟩ : ∃ m, sizeF ((psOf zs).take (i + 1)) = m := ⟨_, rfl⟩
              rw [em'] at e1
              have hof := ok_first HOK.out (by rw [HPL.out]; omega)
              rw [HPL.out] at hof
              have hsum : IntKind.i64.wrap (f + (i : Int)) = f + (i : Int) := IntWalk.i64_in _ (by omega)
              have hd1 : decide ((i : Int) < (j : Int)) = true := decide_eq_true (by omega)
              have EM := Lib.hid em'
              have HIJ := Lib.hid hij
              clear hrc hec r1 r2 r3 es em em' hge2 hg2 htle
              go_wp2_with fail
              go_quiet (fail)
              go_wp2_with fail
              go_roundw
              case rel => exact ⟨i + 1, HIJ.out, by go_num, by rw [EM.out], below_drewN HBI.out _⟩
              case measure => simp [intOf]; omega
            · obtain rfl : i = j := by omega
              obtain ⟨K, hK, hKl⟩ := from_lt cut ((t.size : Int) + 1) (by omega) (by omega)
              have hK0 : (0 : Int) ≤ (K : Int) := by omega
              have hK1 : (K : Int) ≤ (t.size : Int) := by omega
              have hKd : (t.extract 0 K).data.toList = (joinF f (psOf zs)).take K := by rw [← HTD.out]; simp
              have hKs : (t.extract 0 K).size ≤ 1000000 := by rw [ByteArray.size_extract]; omega
              have HSC2 := Lib.hid (fun w => scan_cut (t.extract 0 K) f (psOf zs) K w hKs HOK.out hKd)
              have hwi := whole_iff (psOf zs) 0 K
              have hwl := whole_le (psOf zs) 0 K
              obtain ⟨m, em⟩ : ∃ m, wholeF 0 (psOf zs) K = m := ⟨_, rfl⟩
              rw [HPL.out] at hwl hwi
              rw [em] at HSC2 hwi hwl
              have HWI := Lib.hid hwi
              have HKl := Lib.hid hKl
              clear hKd hKs hwi em hKl
              go_wp2_with fail
              refine (HSC2.out _).mono ?_
              rintro e w4 ⟨ob, bcap, rfl, hrow2, hb4⟩
              rw [hK]
              clear hrow2 hK HSC2
              have HB4 := Lib.hid (Below.trans HBI.out (hb4.mono HBI.out.size))
              clear hb4 HBI
              go_upto_block 6 with fail
              go_cut [23] (fun v wx => v = .int .i64 m ∧ wx = w4)
              case first =>
                go_wp2_with fail
                go_loop [23] (fun v => ∃ c : Nat, c ≤ m ∧ v = .int .i64 c) (fun v => m - (intOf v).toNat)
                case atStart => exact ⟨0, Nat.zero_le _, rfl⟩
                case round =>
                  obtain ⟨c, hcm, rfl⟩ := hrel
                  have hwc := HWI.out c
                  by_cases hci : c < i
                  · obtain ⟨ge, rfl, hge, hge2, hec⟩ := irow_cells HE3.out (by omega)
                    have e1 := (HB4.out.cell (p := ⟨ge, c, none⟩) hge).trans (hec c _ (ends_get (psOf zs) i c hci))
                    have hd1 : decide ((c : Int) < (i : Int)) = true := decide_eq_true (by omega)
                    obtain ⟨m', em'⟩ : ∃ m, sizeF ((psOf zs).take (c + 1)) = m := ⟨_, rfl⟩
                    rw [em'] at e1 hwc
                    by_cases hlt2 : c < m
                    · have hd2 : decide (m' ≤ K) = true := decide_eq_true (by omega)
                      clear hec em' hwc
                      go_wp2_with fail
                      go_round
                      case rel => exact ⟨c + 1, by omega, by go_num⟩
                      case measure => simp [intOf]; omega
                    · have hd2 : decide (m' ≤ K) = false := decide_eq_false (by omega)
                      obtain rfl : c = m := by omega
                      clear hec em' hwc
                      go_wp2_with fail
                      go_meet
                      case rel => exact ⟨rfl, rfl⟩
                  · have hd1 : decide ((c : Int) < (i : Int)) = false := decide_eq_false (by omega)
                    obtain rfl : c = m := by omega
                    clear hwc
                    go_wp2_with fail
                    go_meet
                    case rel => exact ⟨rfl, rfl⟩
              case rest =>
                obtain ⟨rfl, rfl⟩ := hcut
                go_upto_region 33 with fail
                go_cut [197] (fun v W => v = .bool false ∧ W = wc)
                case first =>
                  by_cases hm0 : m = 0
                  · subst hm0
                    go_wp2_with fail
                    go_meet
                    case rel => exact ⟨rfl, rfl⟩
                  · obtain ⟨m, rfl⟩ : ∃ m', m = m' + 1 := ⟨m - 1, by omega⟩
                    obtain ⟨ge, rfl, hge, hge2, hec⟩ := irow_cells HE3.out (by omega)
                    have e1 := (HB4.out.cell (p := ⟨ge, m, none⟩) hge).trans (hec m _ (ends_get (psOf zs) i m (by omega)))
                    have hmb : (m : Int) + 1 ≤ 8796093021952 := by omega
                    have hm1 : decide ((0 : Int) < (m : Int) + 1) = true := decide_eq_true (by omega)
                    have hm2 : ((m : Int) + 1 == 0) = false := beq_eq_false_iff_ne.2 (by omega)
                    have hm3 : (m : Int) + 1 - 1 = m := by omega
                    have hm4 : (0 : Int) ≤ (m : Int) := by omega
                    have hm5 : m < i := by omega
                    clear hec
                    go_wp2_with fail
                    go_meet
                    case rel => exact ⟨rfl, rfl⟩
                case rest =>
                  obtain ⟨rfl, rfl⟩ := hcut
                  have hcat : ¬ 9223372036854775807 < t.size + x.size := by omega
                  have hX : (t ++ x).data.toList = joinF f (psOf zs) ++ x.data.toList := by rw [data_app, HTD.out]
                  have hXs : (t ++ x).size ≤ 1000000 := by rw [ByteArray.size_append]; omega
                  have HSC3 := Lib.hid (fun w => scan_more (t ++ x) f (psOf zs) w hXs HOK.out x.data.toList hX)
                  rw [HPL.out] at HSC3
                  clear hX hXs
                  go_wp2_with fail
                  refine (HSC3.out _).mono ?_
                  rintro e w5 ⟨oc, n2, ccap, good2, ys, rfl, hn2, hg2, hrow3, hb5⟩
                  rw [← HTS.out] at hg2
                  have HROW3 := Lib.hid hrow3
                  have HB5 := Lib.hid (Below.trans HB4.out (hb5.mono HB4.out.size))
                  clear hrow3 hb5 HSC3
                  have hd1 : decide (n2 < i) = false := decide_eq_false (by omega)
                  have hd2 : decide (good2 < t.size) = false := decide_eq_false (by omega)
                  go_wp2_with fail
                  go_loopw [26] (fun iv W => ∃ c : Nat, c ≤ i ∧ iv = .int .i64 c ∧ Below w5.heap.size w5 W) (fun iv _ => i - (intOf iv).toNat)
                  case atStart => exact ⟨0, Nat.zero_le _, rfl, Below.refl _ _⟩
                  case round =>
                    obtain ⟨c, hc, rfl, hbl⟩ := hrel
                    have HBI := Lib.hid hbl
                    clear hbl
                    by_cases hci : c < i
                    · obtain ⟨g, rfl, hg, hg2, hrc⟩ := row_cells HROW.out (by omega)
                      obtain ⟨gc, rfl, hgc, hgc2, hrc2⟩ := row_cells HROW3.out (by omega)
                      obtain ⟨r1, r2, r3⟩ := rowF_get (psOf zs) f 0 c (by rw [HPL.out]; exact hci) HOK.out
                      have hrl := row_len (psOf zs) f 0
                      rw [HPL.out] at hrl
                      have hB := Below.trans HB5.out (HBI.out.mono HB5.out.size)
                      have q0 := (hB.cell (p := ⟨g, 3 * c, none⟩) hg).trans (hrc _ _ r1)
                      have q1 := (hB.cell (p := ⟨g, 3 * c + 1, none⟩) hg).trans (hrc _ _ r2)
                      have q2 := (hB.cell (p := ⟨g, 3 * c + 2, none⟩) hg).trans (hrc _ _ r3)
                      have p0 := (HBI.out.cell (p := ⟨gc, 3 * c, none⟩) hgc).trans (hrc2 _ _ (get_left r1))
                      have p1 := (HBI.out.cell (p := ⟨gc, 3 * c + 1, none⟩) hgc).trans (hrc2 _ _ (get_left r2))
                      have p2 := (HBI.out.cell (p := ⟨gc, 3 * c + 2, none⟩) hgc).trans (hrc2 _ _ (get_left r3))
                      rw [Nat.mul_comm] at q0 q1 q2 p0 p1 p2
                      rw [Nat.zero_add] at q2 p2
                      obtain ⟨s, es⟩ : ∃ s, bs ((psOf zs)[c]'(by rw [HPL.out]; exact hci)) = s := ⟨_, rfl⟩
                      rw [es] at p1 q1
                      obtain ⟨m2, em⟩ : ∃ m, sizeF ((psOf zs).take c) = m := ⟨_, rfl⟩
                      rw [em] at q2 p2
                      have hcn : c < n2 := by omega
                      clear hrc hrc2 r1 r2 r3 es em hrl hB hg2 hgc2 htle
                      go_wp2_with fail
                      go_quiet (fail)
                      go_wp2_with fail
                      go_roundw
                      case rel => exact ⟨c + 1, hci, by go_num, below_drewN HBI.out _⟩
                      case measure => simp [intOf]; omega
                    · obtain rfl : c = i := by omega
                      go_wp2_with fail
                      go_ret
                      exact ⟨rfl, Below.trans HW3.out ((HB5.out.trans (HBI.out.mono HB5.out.size)).mono HW3.out.size)⟩

set_option maxRecDepth 100000 in
set_option maxHeartbeats 8000000 in
theorem none_far (a0 : Option Addr) (cap : Nat) (f cut : Int) (x : ByteArray) (w : World) (hx : 3000 < x.size) :
    Calls Try.prog 4 #[.slice a0 0 cap, .int .i64 f, .int .i64 cut, .string x] w fun e w' => e = .returned (.bool true) ∧ Below w.heap.size w w' := by
  have hd2 : decide ((3000 : Int) < (x.size : Int)) = true := decide_eq_true (by omega)
  go_enter Try.func4, Try.ntmps4
  go_wp2_with fail
  refine wp_loop_rounds 1 ?_
  rw [rounds_succ]
  go_wp2_with fail
  refine (works_any _).mono ?_
  rintro e w1 ⟨rfl, hb1⟩
  go_wp2_with fail
  refine (works_any _).mono ?_
  rintro e w2 ⟨rfl, hb2⟩
  go_wp2_with fail
  go_ret
  exact ⟨rfl, bel_trans hb1 hb2⟩

set_option maxRecDepth 100000 in
set_option maxHeartbeats 8000000 in
theorem none_near (a0 : Option Addr) (cap : Nat) (f cut : Int) (x : ByteArray) (w : World) (hx : x.size ≤ 3000) :
    Calls Try.prog 4 #[.slice a0 0 cap, .int .i64 f, .int .i64 cut, .string x] w fun e w' => e = .returned (.bool true) ∧ Below w.heap.size w w' := by
  have hd2 : decide ((3000 : Int) < (x.size : Int)) = false := decide_eq_false (by omega)
  obtain ⟨K, hK, hKl⟩ := from_lt cut (0 + 1) (by omega) (by omega)
  obtain rfl : K = 0 := by omega
  have S1 := Lib.hid (fun (s : ByteArray) (hs : s.data.toList = []) (w : World) => scan_nil s f hs w)
  have S2 := Lib.hid (fun (X : ByteArray) (hX : X.size ≤ 1000000) (w : World) => scan_free X f hX w)
  go_enter Try.func4, Try.ntmps4
  go_wp2_with fail
  refine wp_loop_rounds 1 ?_
  rw [rounds_succ]
  go_wp2_with fail
  refine (works_any _).mono ?_
  rintro e w1 ⟨rfl, hb1⟩
  go_wp2_with fail
  refine wp_loop_rounds 1 ?_
  rw [rounds_succ]
  go_wp2_with fail
  refine (S1.out _ rfl _).mono ?_
  rintro e w2 ⟨oa, lcap, rfl, hb2⟩
  go_wp2_with fail
  refine wp_loop_rounds 1 ?_
  rw [rounds_succ]
  go_wp2_with fail
  refine (S1.out _ rfl _).mono ?_
  rintro e w3 ⟨ob, bcap, rfl, hb3⟩
  go_wp2_with fail
  refine wp_loop_rounds 1 ?_
  rw [rounds_succ]
  go_wp2_with fail
  refine (S2.out _ (by rw [ByteArray.size_append]; show 0 + x.size ≤ _; omega) _).mono ?_
  rintro e w4 ⟨oc, n, ccap, good, rfl, hb4⟩
  go_wp2_with fail
  refine wp_loop_rounds 1 ?_
  rw [rounds_succ]
  go_wp2_with fail
  go_ret
  exact ⟨rfl, bel_trans (bel_trans (bel_trans hb1 hb2) hb3) hb4⟩

theorem back_any (a0 : Option Addr) (len cap : Nat) (zs : List ByteArray) (f cut : Int) (x : ByteArray) (w : World) (hz : StrsIn w a0 len cap zs) (hf : (Lit.int .i64 f).wf = true) :
    Calls Try.prog 4 #[.slice a0 len cap, .int .i64 f, .int .i64 cut, .string x] w fun e w' => e = .returned (.bool true) ∧ Below w.heap.size w w' := by
  have hfb := bounds_i64 hf
  obtain ⟨hl, hc, hm, hs, h0 | ⟨b, off, rfl, hb, hcell⟩⟩ := hz
  · subst h0
    by_cases hx : 3000 < x.size
    · exact none_far a0 cap f cut x w hx
    · exact none_near a0 cap f cut x w (by omega)
  · by_cases h1 : 12000 ≤ sizeF (psOf zs)
    · exact back_much b off len cap zs f cut x w hl (by omega) hcell hs h1
    by_cases hx : 3000 < x.size
    · exact back_far b off len cap zs f cut x w hl (by omega) hcell hs (by omega) hx
    · exact back_main b off len cap zs f cut x w hl (by omega) hcell hb hs hfb.1 hfb.2 (by omega) (by omega)

end Go.Proofs.Ytkgcjelipllpdaa
