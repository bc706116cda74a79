/- Walks over the reference soukref12: Marks. -/
import Derived.Test.YtmeefecpnfclpaaRGet
import Derived.Deep.AppendLies
import Derived.Deep.RegionHeld3
namespace Go.Proofs.Ytmeefecpnfclpaa
open Go.RowKit

theorem infoM12 : (Try.prog.info? 143).map (fun i => (i.zero, i.size, i.bytes)) = some (some (.agg #[.int .i64 0, .int .i64 0]), 2, 16) := by kernel_rfl

set_option maxRecDepth 100000 in
set_option maxHeartbeats 4000000 in
theorem rmarks_any (B b e f gd : Nat) (ps : List Nat) (w : World) (he : 0 < e) (he2 : e ≤ 64) (hn : f + ps.length ≤ 1000000000) (h : Rxr B w b e f ps gd) :
    Calls Try.prog 57 #[.pointer (some ⟨b, 0, none⟩)] w fun e' w' => ∃ v, e' = .returned v ∧ w'.ownsRow w.heap.size 143 2 v (cntM e ps.length) (mkRow (marksL e f ps)) ∧ Below w.heap.size w w' := by
  obtain ⟨oa, cap, h1, h2⟩ := h.form
  have hbl := h.lt
  obtain ⟨c0, c1, c2, c3, fz⟩ := rx_cells h1
  have hrow : 0 < ps.length → ∃ g, oa = some ⟨g, 0, none⟩ ∧ g < w.heap.size ∧ ∀ j, j < ps.length → w.cell? ⟨g, j, none⟩ = some (.int .i64 ((ps.getD j 0 : Nat) : Int)) := by
    intro hp
    rcases h2.2 with ⟨_, h0⟩ | ⟨g, c, cur, hv, hB, hcur, _⟩
    · omega
    · cases hv
      refine ⟨g, rfl, (Array.getElem?_eq_some_iff.1 hcur).1, fun j hj => ?_⟩
      have c0 := h2.cells (g := g) rfl j _ (ints_get ps j hj)
      have add : (⟨g, 0, none⟩ : Addr).add j = ⟨g, j, none⟩ := by unfold Addr.add; split <;> simp_all
      rwa [add] at c0
  have hml := marks_len e f ps
  have hmg := fun j => marks_get e f ps j
  have hcl := fun j => cnt_lt e ps.length j he
  have hcle := cnt_le e ps.length he
  obtain ⟨i0, hi, hz0, hz1, hz2⟩ := info_parts infoM12
  obtain ⟨n, hnn⟩ : ∃ n, ps.length = n := ⟨_, rfl⟩
  rw [hnn] at hn c2 hrow hml hcl hcle ⊢
  rw [hnn] at hmg
  generalize marksL e f ps = ms at *
  obtain ⟨C, hC⟩ : ∃ C, cntM e n = C := ⟨_, rfl⟩
  rw [hC] at hml hcl hcle hmg ⊢
  have C0 := Lib.hid c0
  have C1 := Lib.hid c1
  have C2 := Lib.hid c2
  have HROW := Lib.hid hrow
  have HML := Lib.hid hml
  have HMG := Lib.hid hmg
  have HCL := Lib.hid hcl
  have HCE := Lib.hid hcle
  clear h1 h2 h fz c0 c1 c2 c3 hrow hml hmg hcl hcle hC hnn
  go_enter Try.func57, Try.ntmps57
  go_wp2_with fail
  go_loopw [3, 4] (fun mv iv W => ∃ j : Nat, j ≤ C ∧ iv = .int .i64 ((j * e : Nat) : Int) ∧ W.ownsRow w.heap.size 143 2 mv j (mkRow (ms.take j)) ∧ Below w.heap.size w W) (fun _ iv _ => n - (intOf iv).toNat)
  case atStart => exact ⟨0, Nat.zero_le _, by rw [Nat.zero_mul]; rfl, World.ownsRow_nil _ _ _ _, Below.refl _ _⟩
  case round =>
    obtain ⟨j, hj, rfl, hrw, hbw⟩ := hrel
    have HR := Lib.hid hrw
    have HB := Lib.hid hbw
    have k0 := (hbw.cell (p := ⟨b, 0, none⟩) hbl).trans C0.out
    have k1 := (hbw.cell (p := ⟨b, 1, none⟩) hbl).trans C1.out
    have k2 := (hbw.cell (p := ⟨b, 2, none⟩) hbl).trans C2.out
    clear hrw hbw
    by_cases hjc : j < C
    · have hjn := (HCL.out j).1 hjc
      obtain ⟨g, rfl, hg, hgc⟩ := HROW.out (by omega)
      have p2 := (HB.out.cell (p := ⟨g, j * e, none⟩) hg).trans (hgc _ hjn)
      have hm := HMG.out j hjc
      obtain ⟨P, hP⟩ : ∃ P, ps.getD (j * e) 0 = P := ⟨_, rfl⟩
      rw [hP] at p2 hm
      have hts : ms.take (j + 1) = ms.take j ++ [(f + j * e, P)] := by
        have hlt : j < ms.length := by rw [HML.out]; exact hjc
        rw [List.take_succ_eq_append_getElem hlt]
        rw [List.getElem?_eq_getElem hlt] at hm
        rw [Option.some.inj hm]
      obtain ⟨I, hI⟩ : ∃ I, j * e = I := ⟨_, rfl⟩
      obtain ⟨M, hM⟩ : ∃ M, f + I = M := ⟨_, rfl⟩
      have hstep : IntKind.i64.wrap ((I : Int) + (e : Int)) = (((j + 1) * e : Nat) : Int) := by rw [IntWalk.i64_in _ (by omega), Nat.add_mul]; omega
      obtain ⟨I2, hI2⟩ : ∃ I2, (j + 1) * e = I2 := ⟨_, rfl⟩
      rw [hI2] at hstep
      rw [hI] at p2 hjn hts ⊢
      rw [hM] at hts
      have hwm : IntKind.i64.wrap ((f : Int) + (I : Int)) = (M : Int) := by rw [IntWalk.i64_in _ (by omega)]; omega
      have q0 : (0 : Int) ≤ (I : Int) := by omega
      have q1 : (I : Int) < (n : Int) := by omega
      have HTS := Lib.hid hts
      have hCb : C ≤ 1000000000 := by have := HCE.out; omega
      clear hgc hm hP hts
      go_wp2_with fail
      have hzw := HB.out.size
      have hal : ∀ (o : Obj) k, k < w.heap.size → (wr.alloc o).heap[k]? = wr.heap[k]? := fun o k hk => ((Below.refl wr.heap.size wr).alloc (Nat.le_refl _) o).block k (by omega)
      go_region_held3 (fun w' => w'.cell? ⟨b, 0, none⟩ = some (.int .i64 f) ∧ w'.cell? ⟨b, 2, none⟩ = some (.slice (some ⟨g, 0, none⟩) n cap) ∧ w'.cell? ⟨g, I, none⟩ = some (.int .i64 P))
        (first | exact ⟨k0, k2, p2⟩ | exact ⟨(World.cell?_of_block (a := ⟨b, 0, none⟩) (hal _ b hbl)).trans k0, (World.cell?_of_block (a := ⟨b, 2, none⟩) (hal _ b hbl)).trans k2, (World.cell?_of_block (a := ⟨g, I, none⟩) (hal _ g hg)).trans p2⟩ | exact ⟨(World.cell?_of_block (a := ⟨b, 0, none⟩) (hkp b hbl)).trans k0, (World.cell?_of_block (a := ⟨b, 2, none⟩) (hkp b hbl)).trans k2, (World.cell?_of_block (a := ⟨g, I, none⟩) (hkp g hg)).trans p2⟩)
        (first | (refine step_append_lies _ (by rfl) (.tmp 18) (.tmp 33) 109 (by rfl) w.heap.size 143 i0 _ 2 16 Try.underlying109 hi hz0 hz1 hz2 rfl (by omega) _ j (mkRow (ms.take j)) (by rfl) (HR.out.alloc _) ⟨wr.heap.size, 0, none⟩ 1 1 [.int .i64 M, .int .i64 P] (by rfl) (by rfl) (World.news_of_block (cs := #[.int .i64 M, .int .i64 P]) (t := 143) (fr := (0, 0)) (heap_alloc_new wr _)) (by simp [Value.oneCell']) (by omega) (by unfold maxLen; omega) (by omega) (by show _ ≤ (wr.alloc _).heap.size; simp; omega) _ rfl ?_; intro g' cap' w2 hown hgrow hat hgl; have hkp : ∀ k, k < w.heap.size → w2.heap[k]? = wr.heap[k]? := (fun k hk => (hgrow.block k (by show k < (wr.alloc _).heap.size; simp; omega) (fun e => by have := (HR.out.lt k e.symm).1; omega)).trans (hal _ k hk))))
      have z1 := (World.cell?_of_block (a := ⟨b, 1, none⟩) (hkp b hbl)).trans k1
      have hz2 := hgrow.size
      have hz3 : (wr.alloc (.cells #[.int .i64 M, .int .i64 P] 143)).drew.heap.size = wr.heap.size + 1 := by show (wr.alloc _).heap.size = _; simp
      have HBN := Lib.hid (show Below w.heap.size w w2 from ⟨hgrow.os.trans HB.out.os, hgrow.tape.trans HB.out.tape, hgrow.output.trans HB.out.output, by omega, fun k hk => (hkp k hk).trans (HB.out.block k hk)⟩)
      have HRN := Lib.hid hown
      clear hown hgrow hat hgl hkp hz2 hz3
      go_wp2_with fail
      refine ⟨⟨j + 1, by omega, by rw [hI2], ?_, HBN.out⟩, ?_⟩
      · rw [HTS.out, mkRow_snoc]; exact HRN.out
      · have h2 : I2 = I + e := by rw [← hI2, ← hI, Nat.add_mul, Nat.one_mul]
        simp [intOf]; omega
    · obtain rfl : j = C := by omega
      have hjn : ¬ j * e < n := fun hh => hjc ((HCL.out j).2 hh)
      have hall : ms.take j = ms := List.take_of_length_le (by rw [HML.out]; exact Nat.le_refl _)
      rw [hall] at HR
      obtain ⟨I, hI⟩ : ∃ I, j * e = I := ⟨_, rfl⟩
      rw [hI] at hjn ⊢
      clear hall
      go_wp2_with fail
      go_ret
      exact ⟨_, rfl, HR.out, HB.out⟩

end Go.Proofs.Ytmeefecpnfclpaa
