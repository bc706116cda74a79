/- Walks over package wire: the Reader. -/
import Derived.Test.YtkgcjelipllpdaaStr
import Derived.Test.YtkgcjelipllpdaaRev
import Derived.Laws.BitsAllLaws
import Derived.BigQuiet
namespace Go.Proofs.Ytkgcjelipllpdaa
open Go.RowKit

theorem bel_drewN {B : Nat} {w w1 : World} (h : Below B w w1) (n : Nat) : Below B w (w1.drewN n) := ⟨h.os, h.tape, h.output, h.size, h.block⟩
theorem bel_undrewN {B n : Nat} {w w1 : World} (h : Below B (w.drewN n) w1) : Below B w w1 := ⟨h.os, h.tape, h.output, h.size, h.block⟩

/-- a Reader: its string, its place, its error, that error's place -/
structure Rd where
  s : ByteArray
  p : Nat
  e : Int
  t : Nat
def rd (w : World) (b : Nat) (r : Rd) : Prop := w.heap[b]? = some (.cells #[.string r.s, .int .i64 r.p, .int .i64 r.e, .int .i64 r.t] 79)
theorem rd.lt {w : World} {b : Nat} {r : Rd} (h : rd w b r) : b < w.heap.size := (Array.getElem?_eq_some_iff.1 h).1
theorem rd.c0 {w : World} {b : Nat} {r : Rd} (h : rd w b r) : w.cell? ⟨b, 0, none⟩ = some (.string r.s) := by rw [cell_of_row _ _ _ _ _ _ h]; rfl
theorem rd.c1 {w : World} {b : Nat} {r : Rd} (h : rd w b r) : w.cell? ⟨b, 1, none⟩ = some (.int .i64 r.p) := by rw [cell_of_row _ _ _ _ _ _ h]; rfl
theorem rd.c2 {w : World} {b : Nat} {r : Rd} (h : rd w b r) : w.cell? ⟨b, 2, none⟩ = some (.int .i64 r.e) := by rw [cell_of_row _ _ _ _ _ _ h]; rfl
theorem rd.c3 {w : World} {b : Nat} {r : Rd} (h : rd w b r) : w.cell? ⟨b, 3, none⟩ = some (.int .i64 r.t) := by rw [cell_of_row _ _ _ _ _ _ h]; rfl
theorem rd.fr {w : World} {b : Nat} {r : Rd} (h : rd w b r) (j : Nat) : w.frozen? ⟨b, j, none⟩ = false := frozen_of_row _ _ _ _ _ h
theorem rd.keep {w w' : World} {b B : Nat} {r : Rd} (h : rd w b r) (hb : Below B w w') (hB : b < B) : rd w' b r := by unfold rd; rw [hb.block b hB]; exact h
/-- can so many bytes be taken? what is taken; what is left -/
def Rd.can (r : Rd) (n : Nat) : Prop := r.e = 0 ∧ r.p + n ≤ r.s.size
instance (r : Rd) (n : Nat) : Decidable (r.can n) := by unfold Rd.can; infer_instance
def Rd.took (r : Rd) (n : Nat) : ByteArray := if r.can n then r.s.extract r.p (r.p + n) else ⟨#[]⟩
def Rd.after (r : Rd) (n : Nat) : Rd := if r.can n then { r with p := r.p + n } else if r.e = 0 then { r with e := 8, t := r.p } else r
/-- it is within bounds -/
def Rd.fine (r : Rd) : Prop := r.s.size ≤ 1000000 ∧ r.p ≤ r.s.size
theorem Rd.fine.next {r : Rd} (h : r.fine) (n : Nat) : (r.after n).fine := by
  unfold Rd.after
  split
  · rename_i hc; exact ⟨h.1, hc.2⟩
  · split <;> exact h
theorem Rd.size_took (r : Rd) (n : Nat) : (r.took n).size ≤ n := by
  unfold Rd.took
  split
  · rw [ByteArray.size_extract]; omega
  · exact Nat.zero_le _

set_option maxHeartbeats 400000 in
theorem rNew (s : ByteArray) (w : World) :
    Calls Try.prog 21 #[.string s] w
      fun e w' => e = .returned (.pointer (some ⟨w.heap.size, 0, none⟩)) ∧ rd w' w.heap.size ⟨s, 0, 0, 0⟩ ∧ Below w.heap.size w w' := by
  go_enter Try.func21, Try.ntmps21
  go_wp2_with fail
  go_ret
  exact ⟨rfl, heap_alloc_new _ _, (Below.refl _ _).alloc (Nat.le_refl _) _⟩

set_option maxHeartbeats 400000 in
theorem rGood (b : Nat) (r : Rd) (w : World) (h : rd w b r) :
    Calls Try.prog 49 #[.pointer (some ⟨b, 0, none⟩)] w
      fun e w' => e = .returned (.bool (decide (r.e = 0))) ∧ w = w' := by
  have h2 := h.c2
  go_enter Try.func49, Try.ntmps49
  go_wp2_with fail
  go_ret
  exact ⟨rfl, rfl⟩

set_option maxHeartbeats 400000 in
theorem rWrong (b : Nat) (r : Rd) (e : Int) (q : Nat) (w : World) (h : rd w b r) :
    Calls Try.prog 50 #[.pointer (some ⟨b, 0, none⟩), .int .i64 e, .int .i64 q] w
      fun en w' => en = .returned (.tuple #[]) ∧ rd w' b ⟨r.s, q, e, q⟩ ∧ Below b w w' := by
  have h1 := h.c1
  have h2 := h.c2
  have h3 := h.c3
  have f1 := h.fr 1
  have f2 := h.fr 2
  have f3 := h.fr 3
  go_enter Try.func50, Try.ntmps50
  go_wp2_with fail
  go_end0
  refine ⟨rfl, ?_, (((Below.refl b w).setCell (p := ⟨b, 2, none⟩) (Nat.le_refl _) _).setCell (p := ⟨b, 3, none⟩) (Nat.le_refl _) _).setCell (p := ⟨b, 1, none⟩) (Nat.le_refl _) _⟩
  have k1 := heap_setCell_same _ _ 2 _ _ (.int .i64 e) h
  have k2 := heap_setCell_same _ _ 3 _ _ (.int .i64 q) k1
  have k3 := heap_setCell_same _ _ 1 _ _ (.int .i64 q) k2
  exact k3

set_option maxHeartbeats 400000 in
theorem rAt (b : Nat) (r : Rd) (w : World) (h : rd w b r) :
    Calls Try.prog 29 #[.pointer (some ⟨b, 0, none⟩)] w
      fun e w' => e = .returned (.int .i64 r.p) ∧ w = w' := by
  have h1 := h.c1
  go_enter Try.func29, Try.ntmps29
  go_wp2_with fail
  go_ret
  exact ⟨rfl, rfl⟩

set_option maxHeartbeats 400000 in
theorem rErr (b : Nat) (r : Rd) (w : World) (h : rd w b r) :
    Calls Try.prog 25 #[.pointer (some ⟨b, 0, none⟩)] w
      fun e w' => e = .returned (.tuple #[.int .i64 r.e, .int .i64 r.t]) ∧ Below w.heap.size w w' := by
  have h2 := h.c2
  have h3 := h.c3
  go_enter Try.func25, Try.ntmps25
  go_wp2_with fail
  go_quiet (fail)
  go_wp2_with fail
  go_ret2
  exact ⟨rfl, bel_drewN (Below.refl _ _) _⟩

set_option maxHeartbeats 400000 in
theorem rTake (b : Nat) (r : Rd) (n : Nat) (w : World) (hf : r.fine) (hn : n ≤ 1000000) (h : rd w b r) :
    Calls Try.prog 43 #[.pointer (some ⟨b, 0, none⟩), .int .i64 n] w
      fun e w' => e = .returned (.tuple #[.string (r.took n), .bool (decide (r.can n))]) ∧ rd w' b (r.after n) ∧ Below b w w' := by
  obtain ⟨hs, hp⟩ := hf
  have hlt := h.lt
  have c0 := h.c0
  have c1 := h.c1
  by_cases he : r.e = 0
  · have d1 : decide (r.e = 0) = true := decide_eq_true he
    by_cases hc : r.p + n ≤ r.s.size
    · have hcan : r.can n := ⟨he, hc⟩
      have e1 : r.took n = r.s.extract r.p (r.p + n) := by unfold Rd.took; rw [if_pos hcan]
      have e2 : r.after n = { r with p := r.p + n } := by unfold Rd.after; rw [if_pos hcan]
      have e3 : decide (r.can n) = true := decide_eq_true hcan
      rw [e1, e2, e3]
      have w1 : IntKind.i64.wrap ((r.s.size : Int) - (r.p : Int)) = (r.s.size : Int) - (r.p : Int) := IntWalk.i64_in _ (by omega)
      have w2 : IntKind.i64.wrap ((r.p : Int) + (n : Int)) = (r.p : Int) + (n : Int) := IntWalk.i64_in _ (by omega)
      have d2 : decide ((r.s.size : Int) - (r.p : Int) < (n : Int)) = false := decide_eq_false (by omega)
      have b1 : (0 : Int) ≤ (r.p : Int) := by omega
      have b2 : (r.p : Int) ≤ (r.p : Int) + (n : Int) := by omega
      have b3 : (r.p : Int) + (n : Int) ≤ (r.s.size : Int) := by omega
      have b4 : ((r.p : Int) + (n : Int)).toNat = r.p + n := by omega
      have fr := h.fr 1
      clear e1 e2 e3
      go_enter Try.func43, Try.ntmps43
      go_wp2_with fail
      refine (rGood b r w h).mono ?_
      rintro e w' ⟨rfl, rfl⟩
      go_wp2_with fail
      go_quiet (fail)
      go_wp2_with fail
      go_quiet (fail)
      go_wp2_with fail
      go_ret2
      refine ⟨rfl, ?_, (bel_drewN (Below.refl b w) _).setCell (p := ⟨b, 1, none⟩) (Nat.le_refl _) _⟩
      exact heap_setCell_same (w.drewN _) _ 1 _ _ (.int .i64 ((r.p : Int) + (n : Int))) h
    · have hcan : ¬ r.can n := fun k => hc k.2
      have e1 : r.took n = ⟨#[]⟩ := by unfold Rd.took; rw [if_neg hcan]
      have e2 : r.after n = { r with e := 8, t := r.p } := by unfold Rd.after; rw [if_neg hcan, if_pos he]
      have e3 : decide (r.can n) = false := decide_eq_false hcan
      rw [e1, e2, e3]
      have w1 : IntKind.i64.wrap ((r.s.size : Int) - (r.p : Int)) = (r.s.size : Int) - (r.p : Int) := IntWalk.i64_in _ (by omega)
      have d2 : decide ((r.s.size : Int) - (r.p : Int) < (n : Int)) = true := decide_eq_true (by omega)
      clear e1 e2 e3
      go_enter Try.func43, Try.ntmps43
      go_wp2_with fail
      refine (rGood b r w h).mono ?_
      rintro e w' ⟨rfl, rfl⟩
      go_wp2_with fail
      go_quiet (fail)
      go_wp2_with fail
      refine (rWrong b r 8 r.p (w.drewN _) h).mono ?_
      rintro e w' ⟨rfl, hr, hb⟩
      go_wp2_with fail
      go_ret2
      exact ⟨rfl, hr, bel_undrewN hb⟩
  · have hcan : ¬ r.can n := fun k => he k.1
    have d1 : decide (r.e = 0) = false := decide_eq_false he
    have e1 : r.took n = ⟨#[]⟩ := by unfold Rd.took; rw [if_neg hcan]
    have e2 : r.after n = r := by unfold Rd.after; rw [if_neg hcan, if_neg he]
    have e3 : decide (r.can n) = false := decide_eq_false hcan
    rw [e1, e2, e3]
    clear e1 e2 e3
    go_enter Try.func43, Try.ntmps43
    go_wp2_with fail
    refine (rGood b r w h).mono ?_
    rintro e w' ⟨rfl, rfl⟩
    go_wp2_with fail
    go_ret2
    exact ⟨rfl, h, Below.refl _ _⟩

set_option maxHeartbeats 400000 in
theorem rRaw (b : Nat) (r : Rd) (n : Nat) (w : World) (hf : r.fine) (hn : n ≤ 1000000) (h : rd w b r) :
    Calls Try.prog 27 #[.pointer (some ⟨b, 0, none⟩), .int .i64 n] w
      fun e w' => e = .returned (.string (r.took n)) ∧ rd w' b (r.after n) ∧ Below b w w' := by
  go_enter Try.func27, Try.ntmps27
  go_wp2_with fail
  refine (rTake b r n w hf hn h).mono ?_
  rintro e w' ⟨rfl, hr, hb⟩
  go_wp2_with fail
  go_ret
  exact ⟨rfl, hr, hb⟩

/-- the number of bytes, the highest first -/
def num (l : List UInt8) : Nat := l.foldl (fun n b => n * 256 + b.toNat) 0
theorem num_snoc (l : List UInt8) (b : UInt8) : num (l ++ [b]) = num l * 256 + b.toNat := by unfold num; rw [List.foldl_append]; rfl
theorem num_lt (l : List UInt8) : num l < 256 ^ l.length := by
  have : ∀ (l : List UInt8) (n k : Nat), n < 256 ^ k → l.foldl (fun n b => n * 256 + b.toNat) n < 256 ^ (k + l.length) := by
    intro l
    induction l with
    | nil => intro n k h; exact h
    | cons b l ih =>
      intro n k h
      have hb := b8lt b
      have := ih (n * 256 + b.toNat) (k + 1) (by rw [Nat.pow_succ]; omega)
      rw [List.length_cons, show k + (l.length + 1) = k + 1 + l.length by omega]
      exact this
  have h := this l 0 0 (by decide)
  rw [Nat.zero_add] at h
  exact h

theorem or_byte (n : Nat) (b : UInt8) (h : n < 72057594037927936) : bits .or .u64 ((n : Int) * 256 % 18446744073709551616) (b.toNat : Int) = ((n * 256 + b.toNat : Nat) : Int) := by
  have hb := b8lt b
  have e : ((n : Int) * 256 % 18446744073709551616) = ((n * 256 : Nat) : Int) := by omega
  have hx : n * 256 ||| b.toNat = n * 256 + b.toNat := by
    have := Nat.shiftLeft_add_eq_or_of_lt (i := 8) (b := b.toNat) (by omega) n
    rw [Nat.shiftLeft_eq] at this
    exact this.symm
  rw [e]
  show IntKind.u64.wrap ((BitVec.ofInt 64 ((n * 256 : Nat) : Int) ||| BitVec.ofInt 64 (b.toNat : Int)).toNat : Int) = _
  rw [BitVec.toNat_or]
  rw [show (BitVec.ofInt 64 ((n * 256 : Nat) : Int)).toNat = n * 256 by simp; omega, show (BitVec.ofInt 64 (b.toNat : Int)).toNat = b.toNat by simp, hx]
  exact IntWalk.u64_in _ (by omega)

theorem num_step (s : ByteArray) (k : Nat) (h : k < s.size) (h8 : s.size ≤ 8) : bits .or .u64 (IntKind.u64.wrap (((num (s.data.toList.take k) : Nat) : Int) * 256)) (IntKind.u64.wrap (s[k].toNat : Int)) = ((num (s.data.toList.take (k + 1)) : Nat) : Int) := by
  have h1 := num_lt (s.data.toList.take k)
  have h2 : (s.data.toList.take k).length ≤ 7 := by rw [List.length_take]; omega
  have h3 : 256 ^ (s.data.toList.take k).length ≤ 256 ^ 7 := Nat.pow_le_pow_right (by omega) h2
  have hb := b8lt s[k]
  rw [IntWalk.u64_in _ (by omega), IntWalk.u64_in _ (by omega)]
  have e : ((num (s.data.toList.take k) : Nat) : Int) * 256 % 18446744073709551616 = ((num (s.data.toList.take k) : Nat) : Int) * 256 := by omega
  rw [← e, or_byte _ _ (by omega)]
  have : s.data.toList.take (k + 1) = s.data.toList.take k ++ [s[k]] := by
    rw [List.take_succ_eq_append_getElem (by simpa using h)]; rfl
  rw [this, num_snoc]

set_option maxRecDepth 100000 in
set_option maxHeartbeats 400000 in
theorem rFixed8 (b : Nat) (r : Rd) (n : Nat) (w : World) (hf : r.fine) (hn : n ≤ 8) (h : rd w b r) :
    Calls Try.prog 41 #[.pointer (some ⟨b, 0, none⟩), .int .i64 n] w
      fun e w' => e = .returned (.int .u64 (num (r.took n).data.toList)) ∧ rd w' b (r.after n) ∧ Below b w w' := by
  have hsz := r.size_took n
  go_enter Try.func41, Try.ntmps41
  go_wp2_with fail
  refine (rTake b r n w hf (by omega) h).mono ?_
  rintro e w' ⟨rfl, hr, hb⟩
  obtain ⟨s, es⟩ : ∃ x, r.took n = x := ⟨_, rfl⟩
  rw [es] at hsz ⊢
  have ES := Lib.hid es
  clear es
  have HR := Lib.hid hr
  have HB := Lib.hid hb
  clear hr hb h hf
  go_wp2_with fail
  go_loop [7, 8, 17] (fun x y i => ∃ k : Nat, k ≤ s.size ∧ i = .int .i64 k ∧ x = .int .u64 (num (s.data.toList.take k))) (fun _ _ i => s.size - (intOf i).toNat)
  case atStart => exact ⟨0, Nat.zero_le _, rfl, rfl⟩
  case round =>
    obtain ⟨k, hk, rfl, rfl⟩ := hrel
    by_cases hlt : k < s.size
    · have hst := Lib.hid (num_step s k hlt (by omega))
      go_wp2_with fail
      go_round
      case rel => exact ⟨k + 1, by omega, by go_num, val_int hst.out⟩
      case measure => simp [intOf]; omega
    · go_wp2_with fail
      go_ret
      refine ⟨ret_int (by rw [ES.out, List.take_of_length_le (by simp; omega)]), HR.out, HB.out⟩

set_option maxRecDepth 100000 in
set_option maxHeartbeats 400000 in
theorem rFixed4 (b : Nat) (r : Rd) (w : World) (hf : r.fine) (h : rd w b r) :
    Calls Try.prog 40 #[.pointer (some ⟨b, 0, none⟩), .int .i64 4] w
      fun e w' => e = .returned (.int .u32 (num (r.took 4).data.toList)) ∧ rd w' b (r.after 4) ∧ Below b w w' := by
  have hsz := r.size_took 4
  go_enter Try.func40, Try.ntmps40
  go_wp2_with fail
  refine (rTake b r 4 w hf (by omega) h).mono ?_
  rintro e w' ⟨rfl, hr, hb⟩
  obtain ⟨s, es⟩ : ∃ x, r.took 4 = x := ⟨_, rfl⟩
  rw [es] at hsz ⊢
  have ES := Lib.hid es
  clear es
  have HR := Lib.hid hr
  have HB := Lib.hid hb
  clear hr hb h hf
  go_wp2_with fail
  go_loop [7, 8, 17] (fun x y i => ∃ k : Nat, k ≤ s.size ∧ i = .int .i64 k ∧ x = .int .u64 (num (s.data.toList.take k))) (fun _ _ i => s.size - (intOf i).toNat)
  case atStart => exact ⟨0, Nat.zero_le _, rfl, rfl⟩
  case round =>
    obtain ⟨k, hk, rfl, rfl⟩ := hrel
    by_cases hlt : k < s.size
    · have hst := Lib.hid (num_step s k hlt (by omega))
      go_wp2_with fail
      go_round
      case rel => exact ⟨k + 1, by omega, by go_num, val_int hst.out⟩
      case measure => simp [intOf]; omega
    · have h1 := num_lt s.data.toList
      have h3 : 256 ^ s.data.toList.length ≤ 256 ^ 4 := Nat.pow_le_pow_right (by omega) hsz
      have e1 : s.data.toList.take k = s.data.toList := List.take_of_length_le (by simp; omega)
      rw [e1]
      have EV := Lib.hid (show num (r.took 4).data.toList = num s.data.toList by rw [ES.out])
      obtain ⟨v, ev⟩ : ∃ v, num s.data.toList = v := ⟨_, rfl⟩
      rw [ev] at h1 EV ⊢
      clear ev e1
      have hm : ((v : Int) % 4294967296) = v := by omega
      go_wp2_with fail
      go_ret
      exact ⟨ret_int (by rw [EV.out]), HR.out, HB.out⟩

set_option maxHeartbeats 400000 in
theorem rU32 (b : Nat) (r : Rd) (w : World) (hf : r.fine) (h : rd w b r) :
    Calls Try.prog 22 #[.pointer (some ⟨b, 0, none⟩)] w
      fun e w' => e = .returned (.int .u32 (num (r.took 4).data.toList)) ∧ rd w' b (r.after 4) ∧ Below b w w' := by
  go_enter Try.func22, Try.ntmps22
  go_wp2_with fail
  refine (rFixed4 b r w hf h).mono ?_
  rintro e w' ⟨rfl, hr, hb⟩
  go_wp2_with fail
  go_ret
  exact ⟨rfl, hr, hb⟩

set_option maxHeartbeats 400000 in
theorem rU64 (b : Nat) (r : Rd) (w : World) (hf : r.fine) (h : rd w b r) :
    Calls Try.prog 23 #[.pointer (some ⟨b, 0, none⟩)] w
      fun e w' => e = .returned (.int .u64 (num (r.took 8).data.toList)) ∧ rd w' b (r.after 8) ∧ Below b w w' := by
  go_enter Try.func23, Try.ntmps23
  go_wp2_with fail
  refine (rFixed8 b r 8 w hf (by omega) h).mono ?_
  rintro e w' ⟨rfl, hr, hb⟩
  go_wp2_with fail
  go_ret
  exact ⟨rfl, hr, hb⟩

/-- four bytes, the lowest first, as a number -/
def lowN (l : List UInt8) : BitVec 32 := rev (BitVec.ofNat 32 (num l))
set_option maxHeartbeats 400000 in
theorem rLow (b : Nat) (r : Rd) (w : World) (hf : r.fine) (h : rd w b r) :
    Calls Try.prog 24 #[.pointer (some ⟨b, 0, none⟩)] w
      fun e w' => e = .returned (.int .u32 (lowN (r.took 4).data.toList).toNat) ∧ rd w' b (r.after 4) ∧ Below b w w' := by
  have hsz := r.size_took 4
  unfold lowN
  have h1 := num_lt (r.took 4).data.toList
  have h3 : 256 ^ (r.took 4).data.toList.length ≤ 256 ^ 4 := Nat.pow_le_pow_right (by omega) hsz
  have h4 : (num (r.took 4).data.toList : Int) = ((BitVec.ofNat 32 (num (r.took 4).data.toList)).toNat : Int) := by rw [BitVec.toNat_ofNat]; omega
  have hu := rU32 b r w hf h
  rw [h4] at hu
  generalize BitVec.ofNat 32 (num (r.took 4).data.toList) = c at *
  clear h4 h1 h3 hsz
  have HU := Lib.hid hu
  clear hu
  go_enter Try.func24, Try.ntmps24
  go_wp2_with fail
  refine HU.out.mono ?_
  rintro e w' ⟨rfl, hr, hb⟩
  go_wp2_with fail
  refine (rev_str c w').mono ?_
  rintro e w' ⟨rfl, rfl⟩
  go_wp2_with fail
  go_ret
  exact ⟨rfl, hr, hb⟩

end Go.Proofs.Ytkgcjelipllpdaa
