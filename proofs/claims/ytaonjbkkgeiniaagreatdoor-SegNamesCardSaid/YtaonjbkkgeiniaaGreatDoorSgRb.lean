/- soukref11.Named. -/
import Derived.Test.YtaonjbkkgeiniaaGreatDoorSgRa
namespace Go.Proofs.YtaonjbkkgeiniaaGreatDoor
open Go.RowKit Go.Shelf Go.Lib

def nG (l : List UInt8) (i : Nat) : List UInt8 := (l.drop 1).take (min (i - 1) 8)
def nF (l : List UInt8) (i : Nat) : List UInt8 := (l.drop 10).take (i - 10)
structure NI (l : List UInt8) (i g f : Nat) : Prop where
  g0 : g = vl 0 (nG l i)
  f0 : f = vl 0 (nF l i)
  dg : ∀ b ∈ nG l i, isD b = true
  df : ∀ b ∈ nF l i, isD b = true
theorem NI.start (l : List UInt8) : NI l 1 0 0 := ⟨rfl, by unfold nF; rfl, (fun b hb => by cases hb), (fun b hb => by unfold nF at hb; simp at hb)⟩
theorem NI.bound {l : List UInt8} {i g f : Nat} (h : NI l i g f) (hi : i ≤ 20) : g < 100000000 ∧ f < 10000000000 := by
  have e1 : (nG l i).length ≤ 8 := by unfold nG; rw [List.length_take]; omega
  have e2 : (nF l i).length ≤ 10 := by unfold nF; rw [List.length_take]; omega
  have v1 := vl_lt _ (nG l i) rfl h.dg
  have v2 := vl_lt _ (nF l i) rfl h.df
  have p1 : (10 : Nat) ^ (nG l i).length ≤ 10 ^ 8 := Nat.pow_le_pow_right (by omega) e1
  have p2 : (10 : Nat) ^ (nF l i).length ≤ 10 ^ 10 := Nat.pow_le_pow_right (by omega) e2
  have p8 : (10 : Nat) ^ 8 = 100000000 := by decide
  have p10 : (10 : Nat) ^ 10 = 10000000000 := by decide
  rw [h.g0, h.f0]
  omega
theorem NI.skip {l : List UInt8} {g f : Nat} (h : NI l 9 g f) : NI l 10 g f := ⟨h.g0, h.f0, h.dg, h.df⟩
theorem nG_step (l : List UInt8) (hl : l.length = 20) (i : Nat) (h1 : 1 ≤ i) (h2 : i < 9) : nG l (i + 1) = nG l i ++ [l[i]'(by omega)] := by
  obtain ⟨j, rfl⟩ : ∃ j, i = j + 1 := ⟨i - 1, by omega⟩
  unfold nG
  rw [show min (j + 1 + 1 - 1) 8 = j + 1 by omega, show min (j + 1 - 1) 8 = j by omega, List.take_succ_eq_append_getElem (by rw [List.length_drop]; omega), List.getElem_drop]
  simp only [Nat.add_comm]
theorem nF_step (l : List UInt8) (hl : l.length = 20) (i : Nat) (h1 : 10 ≤ i) (h2 : i < 20) : nF l (i + 1) = nF l i ++ [l[i]'(by omega)] := by
  obtain ⟨j, rfl⟩ : ∃ j, i = 10 + j := ⟨i - 10, by omega⟩
  unfold nF
  rw [show 10 + j + 1 - 10 = j + 1 by omega, show 10 + j - 10 = j by omega, List.take_succ_eq_append_getElem (by rw [List.length_drop]; omega), List.getElem_drop]
theorem NI.low {l : List UInt8} {i g f : Nat} (h : NI l i g f) (hl : l.length = 20) (h1 : 1 ≤ i) (h2 : i < 9) (c : Nat) (hc : (l[i]'(by omega)).toNat = c) (hd : 48 ≤ c ∧ c ≤ 57) : NI l (i + 1) (g * 10 + (c - 48)) f := by
  refine ⟨?_, ?_, ?_, ?_⟩
  · rw [nG_step l hl i h1 h2, vl_concat, ← h.g0, hc]
  · rw [h.f0]; unfold nF; rw [show i + 1 - 10 = i - 10 by omega]
  · rw [nG_step l hl i h1 h2]
    intro b hb
    rcases List.mem_append.1 hb with hb | hb
    · exact h.dg b hb
    · rw [List.mem_singleton.1 hb, isD_iff, hc]; exact hd
  · have := h.df; unfold nF at this ⊢; rw [show i + 1 - 10 = i - 10 by omega]; exact this
theorem NI.high {l : List UInt8} {i g f : Nat} (h : NI l i g f) (hl : l.length = 20) (h1 : 10 ≤ i) (h2 : i < 20) (c : Nat) (hc : (l[i]'(by omega)).toNat = c) (hd : 48 ≤ c ∧ c ≤ 57) : NI l (i + 1) g (f * 10 + (c - 48)) := by
  refine ⟨?_, ?_, ?_, ?_⟩
  · rw [h.g0]; unfold nG; rw [show min (i + 1 - 1) 8 = min (i - 1) 8 by omega]
  · rw [nF_step l hl i h1 h2, vl_concat, ← h.f0, hc]
  · have := h.dg; unfold nG at this ⊢; rw [show min (i + 1 - 1) 8 = min (i - 1) 8 by omega]; exact this
  · rw [nF_step l hl i h1 h2]
    intro b hb
    rcases List.mem_append.1 hb with hb | hb
    · exact h.df b hb
    · rw [List.mem_singleton.1 hb, isD_iff, hc]; exact hd
theorem NI.bad {l : List UInt8} (hl : l.length = 20) (i : Nat) (h1 : 1 ≤ i) (h2 : i < 20) (h9 : i ≠ 9) (hd : ¬ (48 ≤ (l[i]'(by omega)).toNat ∧ (l[i]'(by omega)).toNat ≤ 57)) : okN l = false := by
  cases hq : okN l with
  | false => rfl
  | true =>
    exfalso
    obtain ⟨_, _, _, k1, k2, _⟩ := okN_parts hq
    apply hd
    rw [← isD_iff]
    rcases Nat.lt_or_ge i 9 with h | h
    · refine k1 _ ?_
      rw [List.mem_iff_getElem?]
      refine ⟨i - 1, ?_⟩
      rw [List.getElem?_take, if_pos (by omega), List.getElem?_drop, show 1 + (i - 1) = i by omega, List.getElem?_eq_getElem (by omega)]
    · refine k2 _ ?_
      rw [List.mem_iff_getElem?]
      refine ⟨i - 10, ?_⟩
      rw [List.getElem?_drop, show 10 + (i - 10) = i by omega, List.getElem?_eq_getElem (by omega)]
theorem NI.done {l : List UInt8} {g f : Nat} (h : NI l 20 g f) (hl : l.length = 20) (h0 : (l[0]'(by omega)).toNat = 115) (h9 : (l[9]'(by omega)).toNat = 45) : okN l = decide (f ≤ 1048576) ∧ ndG l = g ∧ ndF l = f := by
  have e1 : nG l 20 = (l.drop 1).take 8 := rfl
  have e2 : nF l 20 = l.drop 10 := by unfold nF; exact List.take_of_length_le (by rw [List.length_drop]; omega)
  obtain ⟨a, b, c, d⟩ := h
  rw [e1] at a c
  rw [e2] at b d
  have b0 : l[0]? = some 115 := by rw [List.getElem?_eq_getElem (by omega)]; exact congrArg some (UInt8.toNat_inj.1 h0)
  have b9 : l[9]? = some 45 := by rw [List.getElem?_eq_getElem (by omega)]; exact congrArg some (UInt8.toNat_inj.1 h9)
  refine ⟨?_, a.symm, b.symm⟩
  unfold okN
  rw [b0, b9, hl, List.all_eq_true.2 c, List.all_eq_true.2 d, ← b]
  simp
theorem nd_bad {s : ByteArray} (h : okN s.data.toList = false) : ndV s = .tuple #[.int .i64 0, .int .i64 0, .bool false] := by unfold ndV; rw [if_neg (by rw [h]; exact Bool.false_ne_true)]
theorem get_str (s : ByteArray) (i : Nat) (h : i < s.size) : s.data.toList[i]'h = s[i]'h := rfl
set_option maxRecDepth 20000 in
set_option maxHeartbeats 8000000 in
theorem rnamed_any (s : ByteArray) (w : World) :
    Calls Tryz.prog 23 #[.string s] w fun e w' => e = .returned (ndV s) ∧ w' = w := by
  have hl : s.data.toList.length = s.size := rfl
  by_cases h20 : s.size = 20
  case neg =>
    have d1 : ((s.size : Int) != 20) = true := by rw [bne_iff_ne]; omega
    have HE := Lib.hid (nd_bad (s := s) (by unfold okN; rw [hl, beq_false_of_ne h20]; rfl))
    clear h20
    go_enter Tryz.func23, Tryz.ntmps23
    go_wp2_with fail
    go_ret3
    exact ⟨by rw [HE.out]; rfl, rfl⟩
  have hl20 : s.data.toList.length = 20 := h20
  have d1 : ((s.size : Int) != 20) = false := by rw [h20]; rfl
  have q0 : 0 < s.size := by omega
  have q9 : 9 < s.size := by omega
  by_cases h0 : s[0].toNat = 115
  case neg =>
    have d2 : ((s[0].toNat : Int) != 115) = true := by rw [bne_iff_ne]; omega
    have HE := Lib.hid (nd_bad (s := s) (by
      cases hq : okN s.data.toList with
      | false => rfl
      | true =>
        exfalso
        unfold okN at hq
        simp only [Bool.and_eq_true, beq_iff_eq] at hq
        have := hq.1.1.1.1.2
        rw [List.getElem?_eq_getElem (by omega), get_str s 0 q0] at this
        exact h0 (by rw [Option.some.inj this]; rfl)))
    clear h20 h0
    go_enter Tryz.func23, Tryz.ntmps23
    go_wp2_with fail
    go_ret3
    exact ⟨by rw [HE.out]; rfl, rfl⟩
  have d2 : ((s[0].toNat : Int) != 115) = false := by rw [h0]; rfl
  by_cases h9 : s[9].toNat = 45
  case neg =>
    have d3 : ((s[9].toNat : Int) != 45) = true := by rw [bne_iff_ne]; omega
    have HE := Lib.hid (nd_bad (s := s) (by
      cases hq : okN s.data.toList with
      | false => rfl
      | true =>
        exfalso
        unfold okN at hq
        simp only [Bool.and_eq_true, beq_iff_eq] at hq
        have := hq.1.1.1.2
        rw [List.getElem?_eq_getElem (by omega), get_str s 9 q9] at this
        exact h9 (by rw [Option.some.inj this]; rfl)))
    clear h20 h0 h9
    go_enter Tryz.func23, Tryz.ntmps23
    go_wp2_with fail
    go_ret3
    exact ⟨by rw [HE.out]; rfl, rfl⟩
  have d3 : ((s[9].toNat : Int) != 45) = false := by rw [h9]; rfl
  have HDN := Lib.hid (fun (g f : Nat) (h : NI s.data.toList 20 g f) => h.done hl20 h0 h9)
  have HBD := Lib.hid (fun (i : Nat) (h1 : 1 ≤ i) (h2 : i < 20) (h9 : i ≠ 9) (hd : ¬ (48 ≤ (s.data.toList[i]'(by omega)).toNat ∧ (s.data.toList[i]'(by omega)).toNat ≤ 57)) => nd_bad (s := s) (NI.bad hl20 i h1 h2 h9 hd))
  have HLO := Lib.hid (fun (i g f : Nat) (h : NI s.data.toList i g f) => h.low hl20)
  have HHI := Lib.hid (fun (i g f : Nat) (h : NI s.data.toList i g f) => h.high hl20)
  have H20 := Lib.hid h20
  clear h0 h9
  go_enter Tryz.func23, Tryz.ntmps23
  go_wp2_with fail
  go_loop [5, 6, 7] (fun gv fv iv => ∃ i g f : Nat, 1 ≤ i ∧ i ≤ 20 ∧ gv = .int .i64 g ∧ fv = .int .i64 f ∧ iv = .int .i64 i ∧ NI s.data.toList i g f) (fun _ _ iv => 20 - (RowKit.intOf iv).toNat)
  case atStart => exact ⟨1, 0, 0, by omega, by omega, rfl, rfl, rfl, NI.start _⟩
  case round =>
    obtain ⟨i, g, f, h1, h2, rfl, rfl, rfl, hN⟩ := hrel
    obtain ⟨b1, b2⟩ := hN.bound h2
    have HN := Lib.hid hN
    clear hN
    by_cases hin : i < 20
    · have c1 : decide ((i : Int) < 20) = true := decide_eq_true (by omega)
      have c2 : i < s.size := by have := H20.out; omega
      have c3 : (i : Int) < (s.size : Int) := by omega
      have c4 : (0 : Int) ≤ (i : Int) := by omega
      by_cases h9 : i = 9
      · subst h9
        have c5 : (((9 : Nat) : Int) == 9) = true := rfl
        go_wp2_with fail
        refine ⟨⟨10, g, f, by omega, by omega, rfl, rfl, rfl, HN.out.skip⟩, ?_⟩
        simp [RowKit.intOf]
      · have c5 : ((i : Int) == 9) = false := by rw [beq_eq_false_iff_ne]; omega
        obtain ⟨c, hc⟩ : ∃ c, s[i].toNat = c := ⟨_, rfl⟩
        have hcb : c < 256 := by rw [← hc]; exact UInt8.toNat_lt _
        by_cases hd1 : c < 48
        · have c6 : decide ((c : Int) < 48) = true := decide_eq_true (by omega)
          have q := Lib.hid (HBD.out i h1 hin h9 (by show ¬ (48 ≤ s[i].toNat ∧ s[i].toNat ≤ 57); omega))
          go_wp2_with fail
          go_ret3
          exact ⟨by rw [q.out]; rfl, rfl⟩
        by_cases hd2 : 57 < c
        · have c6 : decide ((c : Int) < 48) = false := decide_eq_false (by omega)
          have c7 : decide ((57 : Int) < (c : Int)) = true := decide_eq_true (by omega)
          have q := Lib.hid (HBD.out i h1 hin h9 (by show ¬ (48 ≤ s[i].toNat ∧ s[i].toNat ≤ 57); omega))
          go_wp2_with fail
          go_ret3
          exact ⟨by rw [q.out]; rfl, rfl⟩
        · have c6 : decide ((c : Int) < 48) = false := decide_eq_false (by omega)
          have c7 : decide ((57 : Int) < (c : Int)) = false := decide_eq_false (by omega)
          by_cases hlo : i < 9
          · have c8 : decide ((i : Int) < 9) = true := decide_eq_true (by omega)
            have q := Lib.hid (HLO.out i g f HN.out h1 hlo c hc (by omega))
            go_wp2_with fail
            refine ⟨⟨i + 1, g * 10 + (c - 48), f, by omega, by omega, val_int (by omega), rfl, val_int (by omega), q.out⟩, ?_⟩
            simp [RowKit.intOf]; omega
          · have c8 : decide ((i : Int) < 9) = false := decide_eq_false (by omega)
            have q := Lib.hid (HHI.out i g f HN.out (by omega) hin c hc (by omega))
            go_wp2_with fail
            refine ⟨⟨i + 1, g, f * 10 + (c - 48), by omega, by omega, rfl, val_int (by omega), val_int (by omega), q.out⟩, ?_⟩
            simp [RowKit.intOf]; omega
    · obtain rfl : i = 20 := by omega
      obtain ⟨k1, k2, k3⟩ := HDN.out g f HN.out
      by_cases hf : f ≤ 1048576
      · have c6 : decide ((1048576 : Int) < (f : Int)) = false := decide_eq_false (by omega)
        have q := Lib.hid (show ndV s = .tuple #[.int .i64 g, .int .i64 f, .bool true] by unfold ndV; rw [if_pos (by rw [k1]; exact decide_eq_true hf), k2, k3])
        clear k1 k2 k3
        go_wp2_with fail
        go_ret3
        exact ⟨by rw [q.out]; rfl, rfl⟩
      · have c6 : decide ((1048576 : Int) < (f : Int)) = true := decide_eq_true (by omega)
        have q := Lib.hid (nd_bad (s := s) (by rw [k1]; exact decide_eq_false hf))
        clear k1 k2 k3
        go_wp2_with fail
        go_ret3
        exact ⟨by rw [q.out]; rfl, rfl⟩
end Go.Proofs.YtaonjbkkgeiniaaGreatDoor
