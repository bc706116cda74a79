/- internal/strconv.formatBase10 at any number, into a row of whatever length. -/
import Derived.Shelf.LaysM
import Derived.Lib.Walk
import Derived.Lib.Hide
import Derived.Lib.ItoaWalk
import Derived.WalkKit
import Derived.RegionTactic
import Derived.Shelf.RegionOpenPlain
import Derived.BigCall
import Derived.BigGuard
import Derived.CellFam
namespace Go.Proofs.YtabjpnggihginaaDoor
open Go.Shelf Go.RowKit Go.Sort Go.Lib
variable {P : Program} {ρ : Ren}

/-- a fact behind a structure, out of the unifier's sight -/
structure Kp (p : Prop) : Prop where
  out : p
def st2 (i x : Nat) (dk : Array UInt8) : Array UInt8 := (dk.setIfInBounds (i + 1) (sm (x % 100 * 2 + 1))).setIfInBounds i (sm (x % 100 * 2))
theorem st2_size (i x : Nat) (dk : Array UInt8) : (st2 i x dk).size = dk.size := by unfold st2; simp
def tlF (nd x : Nat) (dk : Array UInt8) : Array UInt8 :=
  match nd with
  | 0 => dk
  | 1 => dk.setIfInBounds 0 (UInt8.ofNat (48 + x))
  | 2 => st2 0 x dk
  | 3 => (st2 1 x dk).setIfInBounds 0 (UInt8.ofNat (48 + x / 100))
  | 4 => st2 0 (x / 100) (st2 2 x dk)
  | 5 => (st2 1 (x / 100) (st2 3 x dk)).setIfInBounds 0 (UInt8.ofNat (48 + x / 100 / 100))
  | 6 => st2 0 (x / 100 / 100) (st2 2 (x / 100) (st2 4 x dk))
  | _ => (st2 1 (x / 100 / 100) (st2 3 (x / 100) (st2 5 x dk))).setIfInBounds 0 (UInt8.ofNat (48 + x / 100 / 100 / 100))
/-- what formatBase10 goes on to write -/
def finF (nd v : Nat) (dk : Array UInt8) : Array UInt8 :=
  if h : 8 ≤ nd then finF (nd - 8) (v / 100000000) (st2 (nd - 8) (v / 100 / 100 / 100) (st2 (nd - 6) (v / 100 / 100) (st2 (nd - 4) (v / 100) (st2 (nd - 2) v dk))))
  else tlF nd (v % 4294967296) dk
termination_by nd
theorem fin_8 (m v : Nat) (dk : Array UInt8) : finF (m + 8) v dk = finF m (v / 100000000) (st2 m (v / 100 / 100 / 100) (st2 (m + 2) (v / 100 / 100) (st2 (m + 4) (v / 100) (st2 (m + 6) v dk)))) := by
  rw [finF, dif_pos (by omega)]
  rw [show m + 8 - 8 = m by omega, show m + 8 - 6 = m + 2 by omega, show m + 8 - 4 = m + 4 by omega, show m + 8 - 2 = m + 6 by omega]
theorem fin_tl (nd v : Nat) (dk : Array UInt8) (h : nd < 8) : finF nd v dk = tlF nd (v % 4294967296) dk := by
  rw [finF, dif_neg (by omega)]
theorem tlF_size (nd x : Nat) (dk : Array UInt8) : (tlF nd x dk).size = dk.size := by
  unfold tlF
  split <;> simp [st2_size]
theorem finF_size (nd v : Nat) (dk : Array UInt8) : (finF nd v dk).size = dk.size := by
  induction nd using Nat.strongRecOn generalizing v dk with
  | ind nd ih =>
    by_cases h : 8 ≤ nd
    · obtain ⟨m, rfl⟩ : ∃ m, nd = m + 8 := ⟨nd - 8, by omega⟩
      rw [fin_8, ih m (by omega)]
      simp [st2_size]
    · rw [fin_tl nd v dk (by omega), tlF_size]
/-- where formatBase10 stands: what it goes on to write is what it will have written -/
structure FI (R : Array UInt8) (sz nd v : Nat) (dk : Array UInt8) : Prop where
  size : dk.size = sz
  le : nd ≤ sz
  lt : v < 18446744073709551616
  fin : finF nd v dk = R

set_option maxHeartbeats 12800000 in
set_option maxRecDepth 100000 in
theorem fb10_lays (L : Lays.n285 P ρ) (blk off cap : Nat) (u : Nat) (d : Array UInt8) (w : World) (hH : Holds (fun (b : UInt8) => Value.int .u8 (b.toNat : Int)) w blk off d) (hu64 : u < 18446744073709551616) (hsz : d.size < 4611686018427387904) :
    Calls P (ρ.f 285) #[.slice (some ⟨blk, off, none⟩) d.size cap, .int .u64 u] w fun e w' =>
      e = .returned (.tuple #[]) ∧ ∃ n : Nat, w' = (putRow (fun (b : UInt8) => Value.int .u8 (b.toNat : Int)) w blk off (finF d.size u d)).drewN n := by
  have mixed := L.mixed
  have t37 := L.t37; have a37 := L.a37; have z37 := L.z37; have v37 := L.v37
  have t53 := L.t53; have a53 := L.a53; have z53 := L.z53; have v53 := L.v53
  have t3 := L.t3; have a3 := L.a3; have z3 := L.z3; have v3 := L.v3
  have t4 := L.t4; have a4 := L.a4; have z4 := L.z4; have v4 := L.v4
  have t51 := L.t51; have a51 := L.a51; have z51 := L.z51; have v51 := L.v51
  have t9 := L.t9; have a9 := L.a9; have z9 := L.z9; have v9 := L.v9
  have t5 := L.t5; have a5 := L.a5; have z5 := L.z5; have v5 := L.v5
  have t0 := L.t0; have a0 := L.a0; have z0 := L.z0; have v0 := L.v0
  obtain ⟨R, eR⟩ : ∃ R, finF d.size u d = R := ⟨_, rfl⟩
  rw [eR]
  go_enter L.f285, Body.n285_ntmps ρ
  go_name_bytes SM hSM
  have eSM : SM = Lib.smalls := by rw [← hSM]; decide +kernel
  subst eSM
  clear hSM
  go_wp2
  go_loopw [1, 4] (fun vu vn wr => ∃ (nd v n : Nat) (dk : Array UInt8), vu = .int .u64 v ∧ vn = .int .i64 nd ∧ wr = (putRow (fun (b : UInt8) => Value.int .u8 (b.toNat : Int)) w blk off dk).drewN n ∧ Hid (FI R d.size nd v dk)) (fun _ vn _ => (RowKit.intOf vn).toNat)
  case atStart => exact ⟨d.size, u, 0, d, rfl, rfl, (putRow_self _ _ _ _ _ hH).symm, ⟨rfl, Nat.le_refl _, hu64, eR⟩⟩
  case round =>
    clear eR
    obtain ⟨nd, v, n, dk0, rfl, rfl, hw0, HI0⟩ := hrel
    rename World => W0
    have AH := Lib.hid hH
    clear hH
    have hv64 : v < 18446744073709551616 := HI0.out.lt
    have hs0 := HI0.out.size
    have hH0 : Holds (fun (b : UInt8) => Value.int .u8 (b.toNat : Int)) W0 blk off dk0 := by rw [hw0]; exact holds_putRow _ w blk off d dk0 AH.out hs0
    obtain ⟨G0, hG0⟩ : ∃ G : Nat → Int, ∀ t, G t = (dk0[t]!.toNat : Int) := ⟨_, fun _ => rfl⟩
    have hc0 : ∀ t, t < d.size → W0.cell? ⟨blk, off + t, none⟩ = some (.int .u8 (G0 t)) := fun t ht => by rw [hG0]; exact (hH0 t (by omega)).1
    have hf0 : ∀ t, t < d.size → W0.frozen? ⟨blk, off + t, none⟩ = false := fun t ht => (hH0 t (by omega)).2
    have AW0 := Lib.hid hw0
    clear hw0 hG0 hH0
    have HL0 := Lib.hid HI0.out.le
    by_cases h8 : 8 ≤ nd
    · obtain ⟨m, rfl⟩ : ∃ m, nd = m + 8 := ⟨nd - 8, by omega⟩
      have hle0 := HL0.out
      have HF := Kp.mk (by have h := HI0.out.fin; rw [fin_8] at h; exact h)
      go_wp2
      go_name_slot 9 x0 hx0
      have hxe0 : x0 = ((v % 100 * 2 : Nat) : Int) := by omega
      have hXa0 : ∀ w, (Instr.index (ρ.t 9) (.string Lib.smalls) (.int .u32 (x0 + 1))).run P w = .ok (.int .u8 ((sm (v % 100 * 2 + 1)).toNat : Int)) w := idx_smalls (ρ.t 9) L.t9 .u32 _ _ (by omega) (by omega)
      have hXb0 : ∀ w, (Instr.index (ρ.t 9) (.string Lib.smalls) (.int .u32 x0)).run P w = .ok (.int .u8 ((sm (v % 100 * 2)).toNat : Int)) w := idx_smalls (ρ.t 9) L.t9 .u32 _ _ (by omega) (by omega)
      have hlo0 : 0 ≤ x0 := by omega
      have hhi0 : x0 ≤ 198 := by omega
      clear hx0 hxe0
      go_region_o
      go_wp2
      go_name_world W1 hW1
      have hw1 : W1 = (putRow (fun (b : UInt8) => Value.int .u8 (b.toNat : Int)) w blk off (st2 (m + 6) (v) dk0)).drewN (n + 0 + 1) := by rw [← hW1]; exact (by rw [AW0.out]; exact store2_world w blk off dk0 (n + 0) (m + 6 + 1) (m + 6) _ _ (by omega) (by omega))
      have hs1 : (st2 (m + 6) (v) dk0).size = d.size := (st2_size _ _ _).trans hs0
      generalize st2 (m + 6) (v) dk0 = dk1 at hw1 hs1 HF
      clear hW1 hc0 hf0 AW0 hXa0 hXb0 hs0
      have hH1 : Holds (fun (b : UInt8) => Value.int .u8 (b.toNat : Int)) W1 blk off dk1 := by rw [hw1]; exact holds_putRow _ w blk off d dk1 AH.out hs1
      obtain ⟨G1, hG1⟩ : ∃ G : Nat → Int, ∀ t, G t = (dk1[t]!.toNat : Int) := ⟨_, fun _ => rfl⟩
      have hc1 : ∀ t, t < d.size → W1.cell? ⟨blk, off + t, none⟩ = some (.int .u8 (G1 t)) := fun t ht => by rw [hG1]; exact (hH1 t (by omega)).1
      have hf1 : ∀ t, t < d.size → W1.frozen? ⟨blk, off + t, none⟩ = false := fun t ht => (hH1 t (by omega)).2
      have AW1 := Lib.hid hw1
      clear hw1 hG1 hH1
      go_name_slot 8 x1 hx1
      have hxe1 : x1 = ((v / 100 % 100 * 2 : Nat) : Int) := by omega
      have hXa1 : ∀ w, (Instr.index (ρ.t 9) (.string Lib.smalls) (.int .u32 (x1 + 1))).run P w = .ok (.int .u8 ((sm (v / 100 % 100 * 2 + 1)).toNat : Int)) w := idx_smalls (ρ.t 9) L.t9 .u32 _ _ (by omega) (by omega)
      have hXb1 : ∀ w, (Instr.index (ρ.t 9) (.string Lib.smalls) (.int .u32 x1)).run P w = .ok (.int .u8 ((sm (v / 100 % 100 * 2)).toNat : Int)) w := idx_smalls (ρ.t 9) L.t9 .u32 _ _ (by omega) (by omega)
      have hlo1 : 0 ≤ x1 := by omega
      have hhi1 : x1 ≤ 198 := by omega
      clear hx1 hxe1
      go_region_o
      go_wp2
      go_name_world W2 hW2
      have hw2 : W2 = (putRow (fun (b : UInt8) => Value.int .u8 (b.toNat : Int)) w blk off (st2 (m + 4) (v / 100) dk1)).drewN (n + 1 + 1) := by rw [← hW2]; exact (by rw [AW1.out]; exact store2_world w blk off dk1 (n + 1) (m + 4 + 1) (m + 4) _ _ (by omega) (by omega))
      have hs2 : (st2 (m + 4) (v / 100) dk1).size = d.size := (st2_size _ _ _).trans hs1
      generalize st2 (m + 4) (v / 100) dk1 = dk2 at hw2 hs2 HF
      clear hW2 hc1 hf1 AW1 hXa1 hXb1 hs1
      have hH2 : Holds (fun (b : UInt8) => Value.int .u8 (b.toNat : Int)) W2 blk off dk2 := by rw [hw2]; exact holds_putRow _ w blk off d dk2 AH.out hs2
      obtain ⟨G2, hG2⟩ : ∃ G : Nat → Int, ∀ t, G t = (dk2[t]!.toNat : Int) := ⟨_, fun _ => rfl⟩
      have hc2 : ∀ t, t < d.size → W2.cell? ⟨blk, off + t, none⟩ = some (.int .u8 (G2 t)) := fun t ht => by rw [hG2]; exact (hH2 t (by omega)).1
      have hf2 : ∀ t, t < d.size → W2.frozen? ⟨blk, off + t, none⟩ = false := fun t ht => (hH2 t (by omega)).2
      have AW2 := Lib.hid hw2
      clear hw2 hG2 hH2
      go_name_slot 11 x2 hx2
      have hxe2 : x2 = ((v / 100 / 100 % 100 * 2 : Nat) : Int) := by omega
      have hXa2 : ∀ w, (Instr.index (ρ.t 9) (.string Lib.smalls) (.int .u32 (x2 + 1))).run P w = .ok (.int .u8 ((sm (v / 100 / 100 % 100 * 2 + 1)).toNat : Int)) w := idx_smalls (ρ.t 9) L.t9 .u32 _ _ (by omega) (by omega)
      have hXb2 : ∀ w, (Instr.index (ρ.t 9) (.string Lib.smalls) (.int .u32 x2)).run P w = .ok (.int .u8 ((sm (v / 100 / 100 % 100 * 2)).toNat : Int)) w := idx_smalls (ρ.t 9) L.t9 .u32 _ _ (by omega) (by omega)
      have hlo2 : 0 ≤ x2 := by omega
      have hhi2 : x2 ≤ 198 := by omega
      clear hx2 hxe2
      go_region_o
      go_wp2
      go_name_world W3 hW3
      have hw3 : W3 = (putRow (fun (b : UInt8) => Value.int .u8 (b.toNat : Int)) w blk off (st2 (m + 2) (v / 100 / 100) dk2)).drewN (n + 2 + 1) := by rw [← hW3]; exact (by rw [AW2.out]; exact store2_world w blk off dk2 (n + 2) (m + 2 + 1) (m + 2) _ _ (by omega) (by omega))
      have hs3 : (st2 (m + 2) (v / 100 / 100) dk2).size = d.size := (st2_size _ _ _).trans hs2
      generalize st2 (m + 2) (v / 100 / 100) dk2 = dk3 at hw3 hs3 HF
      clear hW3 hc2 hf2 AW2 hXa2 hXb2 hs2
      have hH3 : Holds (fun (b : UInt8) => Value.int .u8 (b.toNat : Int)) W3 blk off dk3 := by rw [hw3]; exact holds_putRow _ w blk off d dk3 AH.out hs3
      obtain ⟨G3, hG3⟩ : ∃ G : Nat → Int, ∀ t, G t = (dk3[t]!.toNat : Int) := ⟨_, fun _ => rfl⟩
      have hc3 : ∀ t, t < d.size → W3.cell? ⟨blk, off + t, none⟩ = some (.int .u8 (G3 t)) := fun t ht => by rw [hG3]; exact (hH3 t (by omega)).1
      have hf3 : ∀ t, t < d.size → W3.frozen? ⟨blk, off + t, none⟩ = false := fun t ht => (hH3 t (by omega)).2
      have AW3 := Lib.hid hw3
      clear hw3 hG3 hH3
      go_name_slot 10 x3 hx3
      have hxe3 : x3 = ((v / 100 / 100 / 100 % 100 * 2 : Nat) : Int) := by omega
      have hXa3 : ∀ w, (Instr.index (ρ.t 9) (.string Lib.smalls) (.int .u32 (x3 + 1))).run P w = .ok (.int .u8 ((sm (v / 100 / 100 / 100 % 100 * 2 + 1)).toNat : Int)) w := idx_smalls (ρ.t 9) L.t9 .u32 _ _ (by omega) (by omega)
      have hXb3 : ∀ w, (Instr.index (ρ.t 9) (.string Lib.smalls) (.int .u32 x3)).run P w = .ok (.int .u8 ((sm (v / 100 / 100 / 100 % 100 * 2)).toNat : Int)) w := idx_smalls (ρ.t 9) L.t9 .u32 _ _ (by omega) (by omega)
      have hlo3 : 0 ≤ x3 := by omega
      have hhi3 : x3 ≤ 198 := by omega
      clear hx3 hxe3
      go_region_o
      go_wp2
      go_roundw
      case rel =>
        refine ⟨m, v / 100000000, n + 3 + 1, st2 m (v / 100 / 100 / 100) dk3, by first | go_num | (congr 1; omega), by first | go_num | (congr 1; omega), by rw [AW3.out]; exact store2_world w blk off dk3 (n + 3) (m + 1) (m) _ _ (by omega) (by omega), ⟨(st2_size _ _ _).trans hs3, by omega, by omega, HF.out⟩⟩
      case measure => simp [RowKit.intOf]; omega
    · have HF := Kp.mk (by have h := HI0.out.fin; rw [fin_tl _ _ _ (by omega)] at h; exact h)
      have hwr : IntKind.u32.wrap (v : Int) = ((v % 4294967296 : Nat) : Int) := by rw [IntKind.wrap_u32]; omega
      have hx32 : v % 4294967296 < 4294967296 := Nat.mod_lt _ (by decide)
      obtain ⟨x, ex⟩ : ∃ x, v % 4294967296 = x := ⟨_, rfl⟩
      rw [ex] at HF hwr hx32
      clear ex
      have hc8 : nd = 0 ∨ nd = 1 ∨ nd = 2 ∨ nd = 3 ∨ nd = 4 ∨ nd = 5 ∨ nd = 6 ∨ nd = 7 := by omega
      rcases hc8 with rfl | rfl | rfl | rfl | rfl | rfl | rfl | rfl
      · -- nd = 0
        have hleT := HL0.out
        unfold tlF at HF
        go_wp2
        clear hwr
        go_end0
        exact ⟨rfl, n, by rw [← HF.out]; exact AW0.out⟩
      · -- nd = 1
        have hleT := HL0.out
        unfold tlF at HF
        go_wp2
        clear hwr
        go_end0
        exact ⟨rfl, n, by rw [← HF.out, AW0.out]; exact store1_world0 w blk off dk0 n _ (x) (by omega) (by omega)⟩
      · -- nd = 2
        have hleT := HL0.out
        unfold tlF at HF
        go_wp2
        clear hwr
        go_name_slot 16 x0 hx0
        have hxe0 : x0 = ((x % 100 * 2 : Nat) : Int) := by omega
        have hXa0 : ∀ w, (Instr.index (ρ.t 9) (.string Lib.smalls) (.int .u32 (x0 + 1))).run P w = .ok (.int .u8 ((sm (x % 100 * 2 + 1)).toNat : Int)) w := idx_smalls (ρ.t 9) L.t9 .u32 _ _ (by omega) (by omega)
        have hXb0 : ∀ w, (Instr.index (ρ.t 9) (.string Lib.smalls) (.int .u32 x0)).run P w = .ok (.int .u8 ((sm (x % 100 * 2)).toNat : Int)) w := idx_smalls (ρ.t 9) L.t9 .u32 _ _ (by omega) (by omega)
        have hlo0 : 0 ≤ x0 := by omega
        have hhi0 : x0 ≤ 198 := by omega
        clear hx0 hxe0
        go_region_o
        go_wp2
        go_end0
        exact ⟨rfl, n + 0 + 1, by rw [← HF.out, AW0.out]; exact store2_world w blk off dk0 (n + 0) (0 + 1) (0) _ _ (by omega) (by omega)⟩
      · -- nd = 3
        have hleT := HL0.out
        unfold tlF at HF
        go_wp2
        clear hwr
        go_name_slot 16 x0 hx0
        have hxe0 : x0 = ((x % 100 * 2 : Nat) : Int) := by omega
        have hXa0 : ∀ w, (Instr.index (ρ.t 9) (.string Lib.smalls) (.int .u32 (x0 + 1))).run P w = .ok (.int .u8 ((sm (x % 100 * 2 + 1)).toNat : Int)) w := idx_smalls (ρ.t 9) L.t9 .u32 _ _ (by omega) (by omega)
        have hXb0 : ∀ w, (Instr.index (ρ.t 9) (.string Lib.smalls) (.int .u32 x0)).run P w = .ok (.int .u8 ((sm (x % 100 * 2)).toNat : Int)) w := idx_smalls (ρ.t 9) L.t9 .u32 _ _ (by omega) (by omega)
        have hlo0 : 0 ≤ x0 := by omega
        have hhi0 : x0 ≤ 198 := by omega
        clear hx0 hxe0
        go_region_o
        go_wp2
        go_end0
        exact ⟨rfl, n + 0 + 1, by rw [← HF.out, AW0.out]; exact store21_world w blk off dk0 (n + 0) (1 + 1) (1) _ _ _ (x / 100) (by omega) (by omega) (by omega)⟩
      · -- nd = 4
        have hleT := HL0.out
        unfold tlF at HF
        go_wp2
        clear hwr
        go_name_slot 15 x0 hx0
        have hxe0 : x0 = ((x % 100 * 2 : Nat) : Int) := by omega
        have hXa0 : ∀ w, (Instr.index (ρ.t 9) (.string Lib.smalls) (.int .u32 (x0 + 1))).run P w = .ok (.int .u8 ((sm (x % 100 * 2 + 1)).toNat : Int)) w := idx_smalls (ρ.t 9) L.t9 .u32 _ _ (by omega) (by omega)
        have hXb0 : ∀ w, (Instr.index (ρ.t 9) (.string Lib.smalls) (.int .u32 x0)).run P w = .ok (.int .u8 ((sm (x % 100 * 2)).toNat : Int)) w := idx_smalls (ρ.t 9) L.t9 .u32 _ _ (by omega) (by omega)
        have hlo0 : 0 ≤ x0 := by omega
        have hhi0 : x0 ≤ 198 := by omega
        clear hx0 hxe0
        go_region_o
        go_wp2
        go_name_world W1 hW1
        have hw1 : W1 = (putRow (fun (b : UInt8) => Value.int .u8 (b.toNat : Int)) w blk off (st2 (2) (x) dk0)).drewN (n + 0 + 1) := by rw [← hW1]; exact (by rw [AW0.out]; exact store2_world w blk off dk0 (n + 0) (2 + 1) (2) _ _ (by omega) (by omega))
        have hs1 : (st2 (2) (x) dk0).size = d.size := (st2_size _ _ _).trans hs0
        generalize st2 (2) (x) dk0 = dk1 at hw1 hs1 HF
        clear hW1 hc0 hf0 AW0 hXa0 hXb0 hs0
        have hH1 : Holds (fun (b : UInt8) => Value.int .u8 (b.toNat : Int)) W1 blk off dk1 := by rw [hw1]; exact holds_putRow _ w blk off d dk1 AH.out hs1
        obtain ⟨G1, hG1⟩ : ∃ G : Nat → Int, ∀ t, G t = (dk1[t]!.toNat : Int) := ⟨_, fun _ => rfl⟩
        have hc1 : ∀ t, t < d.size → W1.cell? ⟨blk, off + t, none⟩ = some (.int .u8 (G1 t)) := fun t ht => by rw [hG1]; exact (hH1 t (by omega)).1
        have hf1 : ∀ t, t < d.size → W1.frozen? ⟨blk, off + t, none⟩ = false := fun t ht => (hH1 t (by omega)).2
        have AW1 := Lib.hid hw1
        clear hw1 hG1 hH1
        go_name_slot 14 x1 hx1
        have hxe1 : x1 = ((x / 100 % 100 * 2 : Nat) : Int) := by omega
        have hXa1 : ∀ w, (Instr.index (ρ.t 9) (.string Lib.smalls) (.int .u32 (x1 + 1))).run P w = .ok (.int .u8 ((sm (x / 100 % 100 * 2 + 1)).toNat : Int)) w := idx_smalls (ρ.t 9) L.t9 .u32 _ _ (by omega) (by omega)
        have hXb1 : ∀ w, (Instr.index (ρ.t 9) (.string Lib.smalls) (.int .u32 x1)).run P w = .ok (.int .u8 ((sm (x / 100 % 100 * 2)).toNat : Int)) w := idx_smalls (ρ.t 9) L.t9 .u32 _ _ (by omega) (by omega)
        have hlo1 : 0 ≤ x1 := by omega
        have hhi1 : x1 ≤ 198 := by omega
        clear hx1 hxe1
        go_region_o
        go_wp2
        go_end0
        exact ⟨rfl, n + 1 + 1, by rw [← HF.out, AW1.out]; exact store2_world w blk off dk1 (n + 1) (0 + 1) (0) _ _ (by omega) (by omega)⟩
      · -- nd = 5
        have hleT := HL0.out
        unfold tlF at HF
        go_wp2
        clear hwr
        go_name_slot 15 x0 hx0
        have hxe0 : x0 = ((x % 100 * 2 : Nat) : Int) := by omega
        have hXa0 : ∀ w, (Instr.index (ρ.t 9) (.string Lib.smalls) (.int .u32 (x0 + 1))).run P w = .ok (.int .u8 ((sm (x % 100 * 2 + 1)).toNat : Int)) w := idx_smalls (ρ.t 9) L.t9 .u32 _ _ (by omega) (by omega)
        have hXb0 : ∀ w, (Instr.index (ρ.t 9) (.string Lib.smalls) (.int .u32 x0)).run P w = .ok (.int .u8 ((sm (x % 100 * 2)).toNat : Int)) w := idx_smalls (ρ.t 9) L.t9 .u32 _ _ (by omega) (by omega)
        have hlo0 : 0 ≤ x0 := by omega
        have hhi0 : x0 ≤ 198 := by omega
        clear hx0 hxe0
        go_region_o
        go_wp2
        go_name_world W1 hW1
        have hw1 : W1 = (putRow (fun (b : UInt8) => Value.int .u8 (b.toNat : Int)) w blk off (st2 (3) (x) dk0)).drewN (n + 0 + 1) := by rw [← hW1]; exact (by rw [AW0.out]; exact store2_world w blk off dk0 (n + 0) (3 + 1) (3) _ _ (by omega) (by omega))
        have hs1 : (st2 (3) (x) dk0).size = d.size := (st2_size _ _ _).trans hs0
        generalize st2 (3) (x) dk0 = dk1 at hw1 hs1 HF
        clear hW1 hc0 hf0 AW0 hXa0 hXb0 hs0
        have hH1 : Holds (fun (b : UInt8) => Value.int .u8 (b.toNat : Int)) W1 blk off dk1 := by rw [hw1]; exact holds_putRow _ w blk off d dk1 AH.out hs1
        obtain ⟨G1, hG1⟩ : ∃ G : Nat → Int, ∀ t, G t = (dk1[t]!.toNat : Int) := ⟨_, fun _ => rfl⟩
        have hc1 : ∀ t, t < d.size → W1.cell? ⟨blk, off + t, none⟩ = some (.int .u8 (G1 t)) := fun t ht => by rw [hG1]; exact (hH1 t (by omega)).1
        have hf1 : ∀ t, t < d.size → W1.frozen? ⟨blk, off + t, none⟩ = false := fun t ht => (hH1 t (by omega)).2
        have AW1 := Lib.hid hw1
        clear hw1 hG1 hH1
        go_name_slot 14 x1 hx1
        have hxe1 : x1 = ((x / 100 % 100 * 2 : Nat) : Int) := by omega
        have hXa1 : ∀ w, (Instr.index (ρ.t 9) (.string Lib.smalls) (.int .u32 (x1 + 1))).run P w = .ok (.int .u8 ((sm (x / 100 % 100 * 2 + 1)).toNat : Int)) w := idx_smalls (ρ.t 9) L.t9 .u32 _ _ (by omega) (by omega)
        have hXb1 : ∀ w, (Instr.index (ρ.t 9) (.string Lib.smalls) (.int .u32 x1)).run P w = .ok (.int .u8 ((sm (x / 100 % 100 * 2)).toNat : Int)) w := idx_smalls (ρ.t 9) L.t9 .u32 _ _ (by omega) (by omega)
        have hlo1 : 0 ≤ x1 := by omega
        have hhi1 : x1 ≤ 198 := by omega
        clear hx1 hxe1
        go_region_o
        go_wp2
        go_end0
        exact ⟨rfl, n + 1 + 1, by rw [← HF.out, AW1.out]; exact store21_world w blk off dk1 (n + 1) (1 + 1) (1) _ _ _ (x / 100 / 100) (by omega) (by omega) (by omega)⟩
      · -- nd = 6
        have hleT := HL0.out
        unfold tlF at HF
        go_wp2
        clear hwr
        go_name_slot 15 x0 hx0
        have hxe0 : x0 = ((x % 100 * 2 : Nat) : Int) := by omega
        have hXa0 : ∀ w, (Instr.index (ρ.t 9) (.string Lib.smalls) (.int .u32 (x0 + 1))).run P w = .ok (.int .u8 ((sm (x % 100 * 2 + 1)).toNat : Int)) w := idx_smalls (ρ.t 9) L.t9 .u32 _ _ (by omega) (by omega)
        have hXb0 : ∀ w, (Instr.index (ρ.t 9) (.string Lib.smalls) (.int .u32 x0)).run P w = .ok (.int .u8 ((sm (x % 100 * 2)).toNat : Int)) w := idx_smalls (ρ.t 9) L.t9 .u32 _ _ (by omega) (by omega)
        have hlo0 : 0 ≤ x0 := by omega
        have hhi0 : x0 ≤ 198 := by omega
        clear hx0 hxe0
        go_region_o
        go_wp2
        go_name_world W1 hW1
        have hw1 : W1 = (putRow (fun (b : UInt8) => Value.int .u8 (b.toNat : Int)) w blk off (st2 (4) (x) dk0)).drewN (n + 0 + 1) := by rw [← hW1]; exact (by rw [AW0.out]; exact store2_world w blk off dk0 (n + 0) (4 + 1) (4) _ _ (by omega) (by omega))
        have hs1 : (st2 (4) (x) dk0).size = d.size := (st2_size _ _ _).trans hs0
        generalize st2 (4) (x) dk0 = dk1 at hw1 hs1 HF
        clear hW1 hc0 hf0 AW0 hXa0 hXb0 hs0
        have hH1 : Holds (fun (b : UInt8) => Value.int .u8 (b.toNat : Int)) W1 blk off dk1 := by rw [hw1]; exact holds_putRow _ w blk off d dk1 AH.out hs1
        obtain ⟨G1, hG1⟩ : ∃ G : Nat → Int, ∀ t, G t = (dk1[t]!.toNat : Int) := ⟨_, fun _ => rfl⟩
        have hc1 : ∀ t, t < d.size → W1.cell? ⟨blk, off + t, none⟩ = some (.int .u8 (G1 t)) := fun t ht => by rw [hG1]; exact (hH1 t (by omega)).1
        have hf1 : ∀ t, t < d.size → W1.frozen? ⟨blk, off + t, none⟩ = false := fun t ht => (hH1 t (by omega)).2
        have AW1 := Lib.hid hw1
        clear hw1 hG1 hH1
        go_name_slot 14 x1 hx1
        have hxe1 : x1 = ((x / 100 % 100 * 2 : Nat) : Int) := by omega
        have hXa1 : ∀ w, (Instr.index (ρ.t 9) (.string Lib.smalls) (.int .u32 (x1 + 1))).run P w = .ok (.int .u8 ((sm (x / 100 % 100 * 2 + 1)).toNat : Int)) w := idx_smalls (ρ.t 9) L.t9 .u32 _ _ (by omega) (by omega)
        have hXb1 : ∀ w, (Instr.index (ρ.t 9) (.string Lib.smalls) (.int .u32 x1)).run P w = .ok (.int .u8 ((sm (x / 100 % 100 * 2)).toNat : Int)) w := idx_smalls (ρ.t 9) L.t9 .u32 _ _ (by omega) (by omega)
        have hlo1 : 0 ≤ x1 := by omega
        have hhi1 : x1 ≤ 198 := by omega
        clear hx1 hxe1
        go_region_o
        go_wp2
        go_name_world W2 hW2
        have hw2 : W2 = (putRow (fun (b : UInt8) => Value.int .u8 (b.toNat : Int)) w blk off (st2 (2) (x / 100) dk1)).drewN (n + 1 + 1) := by rw [← hW2]; exact (by rw [AW1.out]; exact store2_world w blk off dk1 (n + 1) (2 + 1) (2) _ _ (by omega) (by omega))
        have hs2 : (st2 (2) (x / 100) dk1).size = d.size := (st2_size _ _ _).trans hs1
        generalize st2 (2) (x / 100) dk1 = dk2 at hw2 hs2 HF
        clear hW2 hc1 hf1 AW1 hXa1 hXb1 hs1
        have hH2 : Holds (fun (b : UInt8) => Value.int .u8 (b.toNat : Int)) W2 blk off dk2 := by rw [hw2]; exact holds_putRow _ w blk off d dk2 AH.out hs2
        obtain ⟨G2, hG2⟩ : ∃ G : Nat → Int, ∀ t, G t = (dk2[t]!.toNat : Int) := ⟨_, fun _ => rfl⟩
        have hc2 : ∀ t, t < d.size → W2.cell? ⟨blk, off + t, none⟩ = some (.int .u8 (G2 t)) := fun t ht => by rw [hG2]; exact (hH2 t (by omega)).1
        have hf2 : ∀ t, t < d.size → W2.frozen? ⟨blk, off + t, none⟩ = false := fun t ht => (hH2 t (by omega)).2
        have AW2 := Lib.hid hw2
        clear hw2 hG2 hH2
        go_name_slot 16 x2 hx2
        have hxe2 : x2 = ((x / 100 / 100 % 100 * 2 : Nat) : Int) := by omega
        have hXa2 : ∀ w, (Instr.index (ρ.t 9) (.string Lib.smalls) (.int .u32 (x2 + 1))).run P w = .ok (.int .u8 ((sm (x / 100 / 100 % 100 * 2 + 1)).toNat : Int)) w := idx_smalls (ρ.t 9) L.t9 .u32 _ _ (by omega) (by omega)
        have hXb2 : ∀ w, (Instr.index (ρ.t 9) (.string Lib.smalls) (.int .u32 x2)).run P w = .ok (.int .u8 ((sm (x / 100 / 100 % 100 * 2)).toNat : Int)) w := idx_smalls (ρ.t 9) L.t9 .u32 _ _ (by omega) (by omega)
        have hlo2 : 0 ≤ x2 := by omega
        have hhi2 : x2 ≤ 198 := by omega
        clear hx2 hxe2
        go_region_o
        go_wp2
        go_end0
        exact ⟨rfl, n + 2 + 1, by rw [← HF.out, AW2.out]; exact store2_world w blk off dk2 (n + 2) (0 + 1) (0) _ _ (by omega) (by omega)⟩
      · -- nd = 7
        have hleT := HL0.out
        unfold tlF at HF
        go_wp2
        clear hwr
        go_name_slot 15 x0 hx0
        have hxe0 : x0 = ((x % 100 * 2 : Nat) : Int) := by omega
        have hXa0 : ∀ w, (Instr.index (ρ.t 9) (.string Lib.smalls) (.int .u32 (x0 + 1))).run P w = .ok (.int .u8 ((sm (x % 100 * 2 + 1)).toNat : Int)) w := idx_smalls (ρ.t 9) L.t9 .u32 _ _ (by omega) (by omega)
        have hXb0 : ∀ w, (Instr.index (ρ.t 9) (.string Lib.smalls) (.int .u32 x0)).run P w = .ok (.int .u8 ((sm (x % 100 * 2)).toNat : Int)) w := idx_smalls (ρ.t 9) L.t9 .u32 _ _ (by omega) (by omega)
        have hlo0 : 0 ≤ x0 := by omega
        have hhi0 : x0 ≤ 198 := by omega
        clear hx0 hxe0
        go_region_o
        go_wp2
        go_name_world W1 hW1
        have hw1 : W1 = (putRow (fun (b : UInt8) => Value.int .u8 (b.toNat : Int)) w blk off (st2 (5) (x) dk0)).drewN (n + 0 + 1) := by rw [← hW1]; exact (by rw [AW0.out]; exact store2_world w blk off dk0 (n + 0) (5 + 1) (5) _ _ (by omega) (by omega))
        have hs1 : (st2 (5) (x) dk0).size = d.size := (st2_size _ _ _).trans hs0
        generalize st2 (5) (x) dk0 = dk1 at hw1 hs1 HF
        clear hW1 hc0 hf0 AW0 hXa0 hXb0 hs0
        have hH1 : Holds (fun (b : UInt8) => Value.int .u8 (b.toNat : Int)) W1 blk off dk1 := by rw [hw1]; exact holds_putRow _ w blk off d dk1 AH.out hs1
        obtain ⟨G1, hG1⟩ : ∃ G : Nat → Int, ∀ t, G t = (dk1[t]!.toNat : Int) := ⟨_, fun _ => rfl⟩
        have hc1 : ∀ t, t < d.size → W1.cell? ⟨blk, off + t, none⟩ = some (.int .u8 (G1 t)) := fun t ht => by rw [hG1]; exact (hH1 t (by omega)).1
        have hf1 : ∀ t, t < d.size → W1.frozen? ⟨blk, off + t, none⟩ = false := fun t ht => (hH1 t (by omega)).2
        have AW1 := Lib.hid hw1
        clear hw1 hG1 hH1
        go_name_slot 14 x1 hx1
        have hxe1 : x1 = ((x / 100 % 100 * 2 : Nat) : Int) := by omega
        have hXa1 : ∀ w, (Instr.index (ρ.t 9) (.string Lib.smalls) (.int .u32 (x1 + 1))).run P w = .ok (.int .u8 ((sm (x / 100 % 100 * 2 + 1)).toNat : Int)) w := idx_smalls (ρ.t 9) L.t9 .u32 _ _ (by omega) (by omega)
        have hXb1 : ∀ w, (Instr.index (ρ.t 9) (.string Lib.smalls) (.int .u32 x1)).run P w = .ok (.int .u8 ((sm (x / 100 % 100 * 2)).toNat : Int)) w := idx_smalls (ρ.t 9) L.t9 .u32 _ _ (by omega) (by omega)
        have hlo1 : 0 ≤ x1 := by omega
        have hhi1 : x1 ≤ 198 := by omega
        clear hx1 hxe1
        go_region_o
        go_wp2
        go_name_world W2 hW2
        have hw2 : W2 = (putRow (fun (b : UInt8) => Value.int .u8 (b.toNat : Int)) w blk off (st2 (3) (x / 100) dk1)).drewN (n + 1 + 1) := by rw [← hW2]; exact (by rw [AW1.out]; exact store2_world w blk off dk1 (n + 1) (3 + 1) (3) _ _ (by omega) (by omega))
        have hs2 : (st2 (3) (x / 100) dk1).size = d.size := (st2_size _ _ _).trans hs1
        generalize st2 (3) (x / 100) dk1 = dk2 at hw2 hs2 HF
        clear hW2 hc1 hf1 AW1 hXa1 hXb1 hs1
        have hH2 : Holds (fun (b : UInt8) => Value.int .u8 (b.toNat : Int)) W2 blk off dk2 := by rw [hw2]; exact holds_putRow _ w blk off d dk2 AH.out hs2
        obtain ⟨G2, hG2⟩ : ∃ G : Nat → Int, ∀ t, G t = (dk2[t]!.toNat : Int) := ⟨_, fun _ => rfl⟩
        have hc2 : ∀ t, t < d.size → W2.cell? ⟨blk, off + t, none⟩ = some (.int .u8 (G2 t)) := fun t ht => by rw [hG2]; exact (hH2 t (by omega)).1
        have hf2 : ∀ t, t < d.size → W2.frozen? ⟨blk, off + t, none⟩ = false := fun t ht => (hH2 t (by omega)).2
        have AW2 := Lib.hid hw2
        clear hw2 hG2 hH2
        go_name_slot 16 x2 hx2
        have hxe2 : x2 = ((x / 100 / 100 % 100 * 2 : Nat) : Int) := by omega
        have hXa2 : ∀ w, (Instr.index (ρ.t 9) (.string Lib.smalls) (.int .u32 (x2 + 1))).run P w = .ok (.int .u8 ((sm (x / 100 / 100 % 100 * 2 + 1)).toNat : Int)) w := idx_smalls (ρ.t 9) L.t9 .u32 _ _ (by omega) (by omega)
        have hXb2 : ∀ w, (Instr.index (ρ.t 9) (.string Lib.smalls) (.int .u32 x2)).run P w = .ok (.int .u8 ((sm (x / 100 / 100 % 100 * 2)).toNat : Int)) w := idx_smalls (ρ.t 9) L.t9 .u32 _ _ (by omega) (by omega)
        have hlo2 : 0 ≤ x2 := by omega
        have hhi2 : x2 ≤ 198 := by omega
        clear hx2 hxe2
        go_region_o
        go_wp2
        go_end0
        exact ⟨rfl, n + 2 + 1, by rw [← HF.out, AW2.out]; exact store21_world w blk off dk2 (n + 2) (1 + 1) (1) _ _ _ (x / 100 / 100 / 100) (by omega) (by omega) (by omega)⟩
end Go.Proofs.YtabjpnggihginaaDoor
