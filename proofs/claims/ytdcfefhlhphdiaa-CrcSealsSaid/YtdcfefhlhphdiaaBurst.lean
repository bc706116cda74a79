/- The walk over souklaw01.burst. -/
import Derived.Test.YtdcfefhlhphdiaaBurstL
import Derived.Test.YtdcfefhlhphdiaaCrcBL
namespace Go.Proofs.Ytdcfefhlhphdiaa
open Go.RowKit

theorem from_lt (a : Int) (n : Nat) (h0 : 0 < n) (hn : n ≤ 1000000000) : ∃ f : Nat, wrap64 ((IntKind.u64.wrap a).tmod (8 * (n : Int))) = f ∧ f < 8 * n := by
  have h1 : 0 ≤ IntKind.u64.wrap a := by rw [IntKind.wrap_u64]; omega
  have h2 : (IntKind.u64.wrap a).tmod (8 * (n : Int)) = IntKind.u64.wrap a % (8 * (n : Int)) := Int.tmod_eq_emod_of_nonneg h1
  have h3 : 0 ≤ IntKind.u64.wrap a % (8 * (n : Int)) := Int.emod_nonneg _ (by omega)
  have h4 : IntKind.u64.wrap a % (8 * (n : Int)) < 8 * (n : Int) := Int.emod_lt_of_pos _ (by omega)
  rw [h2]
  generalize IntKind.u64.wrap a % (8 * (n : Int)) = x at *
  refine ⟨x.toNat, ?_, by omega⟩
  unfold wrap64
  omega

theorem bit_at (p : BitVec 32) (i : Nat) : bits .and .u32 ((p.toNat : Int) / 2 ^ i) 1 = if p.getLsbD i then 1 else 0 := by
  have h := g_shr p i
  have e : ((2 ^ i : Nat) : Int) = (2 : Int) ^ i := by simp
  rw [e] at h
  rw [h, and1, BitVec.getLsbD_ushiftRight, Nat.add_zero]
theorem bit_true (p : BitVec 32) (i : Nat) (h : p.getLsbD i = true) : (bits .and .u32 ((p.toNat : Int) / 2 ^ i) 1 == 1) = true := by
  rw [bit_at, h]; rfl
theorem bit_false (p : BitVec 32) (i : Nat) (h : p.getLsbD i = false) : (bits .and .u32 ((p.toNat : Int) / 2 ^ i) 1 == 1) = false := by
  rw [bit_at, h]; rfl

theorem bit8_val (k : Nat) : (2 : Int) ^ k % 256 = ((bit8 k).toNat : Int) := by
  unfold bit8; rw [UInt8.toNat_ofNat']
  rw [Int.natCast_emod, Int.natCast_pow]; rfl

set_option maxHeartbeats 400000 in
theorem burst_none (s : ByteArray) (a : Int) (p : BitVec 32) (w : World) (h0 : s.size = 0) :
    Calls Try.prog 14 #[.string s, .int .i64 a, .int .u32 p.toNat] w
      fun e w' => e = .returned (.tuple #[.string s, .bool false]) ∧ Below w.heap.size w w' := by
  obtain ⟨cap, O, hcv, hby⟩ := conv_str w s
  have HB := Lib.hid hby
  clear hby
  go_enter Try.func14, Try.ntmps14
  go_wp2_with fail
  go_ret2
  exact ⟨rfl, bel_drew (bel_alloc (Below.refl _ _) _)⟩

set_option maxHeartbeats 1000000 in
theorem burst_some (s : ByteArray) (a : Int) (p : BitVec 32) (w : World) (hs : s.size ≤ 1000000000) (h0 : 0 < s.size) :
    ∃ f i, i ≤ 32 ∧ f + i ≤ 8 * s.size ∧ Calls Try.prog 14 #[.string s, .int .i64 a, .int .u32 p.toNat] w
      fun e w' => e = .returned (.tuple #[.string (bs (burstTo s.data.toList p f i)), .bool (anyTo p i)]) ∧ Below w.heap.size w w' := by
  obtain ⟨f, hf, hfl⟩ := from_lt a s.size h0 hs
  obtain ⟨m, hm⟩ : ∃ m, m = min 32 (8 * s.size - f) := ⟨_, rfl⟩
  refine ⟨f, m, by omega, by omega, ?_⟩
  obtain ⟨cap, O, hcv, hby⟩ := conv_str w s
  have HB := Lib.hid hby
  have HM := Lib.hid hm
  clear hby hm
  go_enter Try.func14, Try.ntmps14
  go_wp2_with fail
  rw [hf]
  clear hf hcv
  go_loopw [10, 11] (fun x y wr => ∃ i : Nat, i ≤ 32 ∧ f + i ≤ 8 * s.size ∧ y = .int .i64 i ∧ x = .bool (anyTo p i) ∧ bytesAt wr w.heap.size (burstTo s.data.toList p f i) ∧ Below w.heap.size w wr) (fun _ y _ => 32 - (intOf y).toNat)
  case atStart => exact ⟨0, by omega, by omega, rfl, rfl, HB.out, bel_drew (bel_alloc (Below.refl _ _) _)⟩
  case round =>
    obtain ⟨i, hi, hfi, rfl, rfl, hby, hbl⟩ := hrel
    clear HB
    have HB := Lib.hid hby
    clear hby
    by_cases h1 : i < 32
    · by_cases h2 : f + i < 8 * s.size
      · have hn := length_burst s.data.toList p f i
        have hn' : (burstTo s.data.toList p f i).length = s.size := by rw [hn]; simp
        have hk : (f + i) / 8 < (burstTo s.data.toList p f i).length := by rw [hn']; omega
        have hd1 : decide ((i : Int) < 32) = true := by simp; omega
        have hd2 : decide ((f : Int) + (i : Int) < 8 * (s.size : Int)) = true := by simp; omega
        by_cases hp : p.getLsbD i = true
        · have hbit := bit_true p i hp
          have hcell := HB.out.cell ((f + i) / 8) hk
          have hfr := HB.out.frozen ((f + i) / 8) hk
          have HK := Lib.hid hk
          have HP := Lib.hid hp
          clear hn hn' hk hp
          go_wp2_with fail
          go_roundw
          case rel =>
            refine ⟨i + 1, by omega, by omega, by go_num, ?_, ?_, hbl.setCell (Nat.le_refl _) _⟩
            · show Value.bool true = .bool (p.getLsbD i || anyTo p i)
              rw [HP.out]; rfl
            · show bytesAt _ _ (if p.getLsbD i then _ else _)
              rw [HP.out, bit8_val, gx_x8]; exact HB.out.store _ HK.out _
          case measure => simp [intOf]; omega
        · have hp' : p.getLsbD i = false := by simpa using hp
          have hbit := bit_false p i hp'
          have HP := Lib.hid hp'
          clear hn hn' hk hp hp'
          go_wp2_with fail
          go_roundw
          case rel =>
            refine ⟨i + 1, by omega, by omega, by go_num, ?_, ?_, hbl⟩
            · show Value.bool (anyTo p i) = .bool (p.getLsbD i || anyTo p i)
              rw [HP.out]; rfl
            · show bytesAt wr _ (if p.getLsbD i then _ else _)
              rw [HP.out]; exact HB.out
          case measure => simp [intOf]; omega
      · obtain rfl : m = i := by rw [HM.out]; omega
        clear HM
        have hconv := HB.out.conv s.size cap (by rw [length_burst]; simp)
        go_wp2_with fail
        go_ret2
        exact ⟨rfl, hbl⟩
    · obtain rfl : m = i := by rw [HM.out]; omega
      clear HM
      have hconv := HB.out.conv s.size cap (by rw [length_burst]; simp)
      go_wp2_with fail
      go_ret2
      exact ⟨rfl, hbl⟩

end Go.Proofs.Ytdcfefhlhphdiaa
