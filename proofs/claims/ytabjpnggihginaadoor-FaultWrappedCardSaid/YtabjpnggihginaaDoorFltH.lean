/- fault.Text and the Error methods. -/
import Derived.Test.YtabjpnggihginaaDoorFltG
namespace Go.Proofs.YtabjpnggihginaaDoor
open Go.RowKit Go.Extern.Stop Go.Stop Go.Extern Go.Shelf

/-- in w, and wherever w's blocks stand: FormatInt at base 10 tells F of the numbers that are ok -/
def Fmt (w : World) (F : Int → ByteArray) (ok : Int → Prop) : Prop :=
  ∀ n, ok n → (F n).size ≤ 21 ∧ ∀ w', Below w.heap.size w w' → Calls Tryd.prog 41 #[.int .i64 n, .int .i64 10] w' fun e w'' => e = .returned (.string (F n)) ∧ Below w'.heap.size w' w''
theorem Fmt.keep {w w' : World} {F : Int → ByteArray} {ok : Int → Prop} (h : Fmt w F ok) (hb : Below w.heap.size w w') : Fmt w' F ok :=
  fun n hn => ⟨(h n hn).1, fun w2 hb2 => (h n hn).2 w2 (hb.trans (hb2.mono hb.size))⟩

theorem bel_trans {w w1 w2 : World} (h : Below w.heap.size w w1) (k : Below w1.heap.size w1 w2) : Below w.heap.size w w2 := h.trans (k.mono h.size)

def spB : ByteArray := ⟨#[32]⟩
def atB : ByteArray := ⟨#[32, 97, 116, 32]⟩
def coB : ByteArray := ⟨#[58, 32]⟩
def seB : ByteArray := ⟨#[115, 111, 117, 107, 58, 32, 101, 114, 114, 111, 114, 32]⟩
/-- what an Error says ahead of what it wraps -/
def prt (F : Int → ByteArray) (x : Wr) : ByteArray :=
  (if 0 ≤ x.pl then (if x.nm = ⟨#[]⟩ then x.op else x.op ++ (spB ++ x.nm)) ++ (atB ++ F x.pl) else (if x.nm = ⟨#[]⟩ then x.op else x.op ++ (spB ++ x.nm))) ++ coB
def txt (F : Int → ByteArray) (bt : ByteArray) : List Wr → ByteArray
  | [] => bt
  | x :: l => prt F x ++ txt F bt l

set_option maxHeartbeats 400000 in
theorem fmt_pub (n : Int) (s : ByteArray) (w : World) (h : Calls Tryd.prog 41 #[.int .i64 n, .int .i64 10] w fun e w' => e = .returned (.string s) ∧ Below w.heap.size w w') :
    Calls Tryd.prog 74 #[.int .i64 n, .int .i64 10] w fun e w' => e = .returned (.string s) ∧ Below w.heap.size w w' := by
  have H := Lib.hid h
  clear h
  go_enter Tryd.func74, Tryd.ntmps74
  go_wp2_with fail
  refine H.out.mono ?_
  rintro e w1 ⟨rfl, hb⟩
  have HB := Lib.hid hb
  clear hb
  go_wp2_with fail
  go_ret
  exact ⟨rfl, HB.out⟩
set_option maxHeartbeats 400000 in
theorem itoa_in (n : Int) (s : ByteArray) (w : World) (h : Calls Tryd.prog 41 #[.int .i64 n, .int .i64 10] w fun e w' => e = .returned (.string s) ∧ Below w.heap.size w w') :
    Calls Tryd.prog 33 #[.int .i64 n] w fun e w' => e = .returned (.string s) ∧ Below w.heap.size w w' := by
  have H := Lib.hid h
  clear h
  go_enter Tryd.func33, Tryd.ntmps33
  go_wp2_with fail
  refine H.out.mono ?_
  rintro e w1 ⟨rfl, hb⟩
  have HB := Lib.hid hb
  clear hb
  go_wp2_with fail
  go_ret
  exact ⟨rfl, HB.out⟩
set_option maxHeartbeats 400000 in
theorem itoa_pub (n : Int) (s : ByteArray) (w : World) (h : Calls Tryd.prog 41 #[.int .i64 n, .int .i64 10] w fun e w' => e = .returned (.string s) ∧ Below w.heap.size w w') :
    Calls Tryd.prog 26 #[.int .i64 n] w fun e w' => e = .returned (.string s) ∧ Below w.heap.size w w' := by
  have H := Lib.hid (itoa_in n s w h)
  clear h
  go_enter Tryd.func26, Tryd.ntmps26
  go_wp2_with fail
  refine H.out.mono ?_
  rintro e w1 ⟨rfl, hb⟩
  have HB := Lib.hid hb
  clear hb
  go_wp2_with fail
  go_ret
  exact ⟨rfl, HB.out⟩
set_option maxHeartbeats 400000 in
theorem errno_any (n : Int) (F : Int → ByteArray) (ok : Int → Prop) (w : World) (h : Fmt w F ok) (hn : ok n) :
    Calls Tryd.prog 12 #[.int .i64 n] w fun e w' => e = .returned (.string (seB ++ F n)) ∧ Below w.heap.size w w' := by
  have H := Lib.hid (itoa_pub n (F n) w ((h n hn).2 w (Below.refl _ _)))
  have hs : ¬ 9223372036854775807 < seB.size + (F n).size := by have := (h n hn).1; have : seB.size = 12 := rfl; omega
  obtain ⟨s, es⟩ : ∃ s, F n = s := ⟨_, rfl⟩
  rw [es] at H hs ⊢
  clear h hn es
  go_enter Tryd.func12, Tryd.ntmps12
  go_wp2_with fail
  refine H.out.mono ?_
  rintro e w1 ⟨rfl, hb⟩
  have HB := Lib.hid hb
  clear hb
  go_wp2_with fail
  go_ret
  exact ⟨rfl, HB.out⟩

theorem own_any (w : World) : Calls Tryd.prog 72 #[.agg #[]] w fun e w' => e = .returned (.string ⟨#[111, 119, 110]⟩) ∧ Below w.heap.size w w' := by
  go_enter Tryd.func72, Tryd.ntmps72
  go_wp2_with fail
  go_ret
  exact ⟨rfl, (Below.refl _ _).alloc (Nat.le_refl _) _⟩

theorem nm_empty : (ByteArray.toList ⟨#[]⟩).isEmpty = true := by rw [ByteArray.toList_eq]; rfl
theorem nm_other {a : ByteArray} (h : ¬ a = ⟨#[]⟩) : a.toList.isEmpty = false := by
  rw [ByteArray.toList_eq]
  cases hl : a.data.toList with
  | nil => exact absurd (Go.WideShapes.bytes_inj (a := a) (b := ⟨#[]⟩) hl) h
  | cons _ _ => rfl

set_option maxHeartbeats 1000000 in
theorem err_any (F : Int → ByteArray) (ok : Int → Prop) (x : Wr) (u : Value) (k : Nat) (t : ByteArray) (w : World) (hk : w.heap[k]? = some (.cells #[.string x.op, .string x.nm, .int .i64 x.pl, u] 57)) (hF : Fmt w F ok) (hok : 0 ≤ x.pl → ok x.pl)
    (hu : ∃ T y, u = .iface T y) (hz : x.op.size + x.nm.size + t.size ≤ 1000000000) (hT : ∀ w', Below w.heap.size w w' → Calls Tryd.prog 11 #[u] w' fun e w'' => e = .returned (.string t) ∧ Below w'.heap.size w' w'') :
    Calls Tryd.prog 73 #[.pointer (some ⟨k, 0, none⟩)] w fun e w' => e = .returned (.string (prt F x ++ t)) ∧ Below w.heap.size w w' := by
  obtain ⟨T, y, rfl⟩ := hu
  obtain ⟨o, n, p⟩ := x
  have hlk := (Array.getElem?_eq_some_iff.1 hk).1
  have k0 : w.cell? ⟨k, 0, none⟩ = some (.string o) := by rw [cell_of_row _ _ _ _ _ _ hk]; rfl
  have k1 : w.cell? ⟨k, 1, none⟩ = some (.string n) := by rw [cell_of_row _ _ _ _ _ _ hk]; rfl
  have k2 : w.cell? ⟨k, 2, none⟩ = some (.int .i64 p) := by rw [cell_of_row _ _ _ _ _ _ hk]; rfl
  have k3 : w.cell? ⟨k, 3, none⟩ = some (.iface T y) := by rw [cell_of_row _ _ _ _ _ _ hk]; rfl
  have HT := Lib.hid hT
  have HK := Lib.hid hk
  simp only at hz hok
  clear hT hk
  obtain ⟨s1, e1⟩ : ∃ s1, (if n = ⟨#[]⟩ then o else o ++ (spB ++ n)) = s1 := ⟨_, rfl⟩
  have z1 : s1.size ≤ 1000000001 := by
    rw [← e1]; split
    · omega
    · rw [ByteArray.size_append, ByteArray.size_append]; have : spB.size = 1 := rfl; omega
  have tail : ∀ s2 : ByteArray, s2.size ≤ 1000000100 → s2 = (if 0 ≤ p then s1 ++ (atB ++ F p) else s1) → prt F ⟨o, n, p⟩ ++ t = (s2 ++ coB) ++ t := by
    intro s2 _ h2
    unfold prt
    simp only [e1]
    rw [← h2]
  by_cases hn : n = ⟨#[]⟩
  · subst hn
    have d1 := nm_empty
    rw [if_pos rfl] at e1
    subst e1
    by_cases hp : 0 ≤ p
    · have d2 : decide (0 ≤ p) = true := decide_eq_true hp
      obtain ⟨zf, hf⟩ := hF p (hok hp)
      have HF := Lib.hid (fmt_pub p (F p) w (hf w (Below.refl _ _)))
      rw [if_pos hp] at tail
      obtain ⟨f, ef⟩ : ∃ f, F p = f := ⟨_, rfl⟩
      rw [ef] at HF tail zf
      have HTl := Lib.hid (tail _ (by (try simp only [ByteArray.size_append] at z1 ⊢); have : atB.size = 4 := rfl; omega) rfl)
      clear hF hok hf tail ef
      have q1 : ¬ 9223372036854775807 < (ByteArray.mk #[32, 97, 116, 32]).size + f.size := by have : (ByteArray.mk #[32]).size = 1 := rfl; have : (ByteArray.mk #[32, 97, 116, 32]).size = 4 := rfl; have : (ByteArray.mk #[58, 32]).size = 2 := rfl; omega
      have q2 : ¬ 9223372036854775807 < o.size + (ByteArray.mk #[32, 97, 116, 32] ++ f).size := by (try simp only [ByteArray.size_append]); have : (ByteArray.mk #[32]).size = 1 := rfl; have : (ByteArray.mk #[32, 97, 116, 32]).size = 4 := rfl; have : (ByteArray.mk #[58, 32]).size = 2 := rfl; omega
      have q3 : ¬ 9223372036854775807 < (o ++ (ByteArray.mk #[32, 97, 116, 32] ++ f)).size + (ByteArray.mk #[58, 32]).size := by (try simp only [ByteArray.size_append]); have : (ByteArray.mk #[32]).size = 1 := rfl; have : (ByteArray.mk #[32, 97, 116, 32]).size = 4 := rfl; have : (ByteArray.mk #[58, 32]).size = 2 := rfl; omega
      have q4 : ¬ 9223372036854775807 < (o ++ (ByteArray.mk #[32, 97, 116, 32] ++ f) ++ ByteArray.mk #[58, 32]).size + t.size := by (try simp only [ByteArray.size_append]); have : (ByteArray.mk #[32]).size = 1 := rfl; have : (ByteArray.mk #[32, 97, 116, 32]).size = 4 := rfl; have : (ByteArray.mk #[58, 32]).size = 2 := rfl; omega
      go_enter Tryd.func73, Tryd.ntmps73
      go_wp2_with fail
      refine HF.out.mono ?_
      rintro e w1 ⟨rfl, hb⟩
      have k3' := (hb.cell (p := ⟨k, 3, none⟩) hlk).trans k3
      have HB := Lib.hid hb
      clear hb
      go_wp2_with fail
      refine (HT.out _ HB.out).mono ?_
      rintro e w2 ⟨rfl, hb⟩
      have HB2 := Lib.hid (bel_trans HB.out hb)
      clear hb
      go_wp2_with fail
      go_ret
      exact ⟨by rw [HTl.out]; rfl, HB2.out⟩
    · have d2 : decide (0 ≤ p) = false := decide_eq_false hp
      rw [if_neg hp] at tail
      have HTl := Lib.hid (tail _ (by (try simp only [ByteArray.size_append] at z1 ⊢); omega) rfl)
      clear hF hok tail
      have q3 : ¬ 9223372036854775807 < o.size + (ByteArray.mk #[58, 32]).size := by (try simp only [ByteArray.size_append]); have : (ByteArray.mk #[32]).size = 1 := rfl; have : (ByteArray.mk #[32, 97, 116, 32]).size = 4 := rfl; have : (ByteArray.mk #[58, 32]).size = 2 := rfl; omega
      have q4 : ¬ 9223372036854775807 < (o ++ ByteArray.mk #[58, 32]).size + t.size := by (try simp only [ByteArray.size_append]); have : (ByteArray.mk #[32]).size = 1 := rfl; have : (ByteArray.mk #[32, 97, 116, 32]).size = 4 := rfl; have : (ByteArray.mk #[58, 32]).size = 2 := rfl; omega
      go_enter Tryd.func73, Tryd.ntmps73
      go_wp2_with fail
      refine (HT.out _ (Below.refl _ _)).mono ?_
      rintro e w2 ⟨rfl, hb⟩
      have HB2 := Lib.hid hb
      clear hb
      go_wp2_with fail
      go_ret
      exact ⟨by rw [HTl.out]; rfl, HB2.out⟩
  · have d1 := nm_other hn
    rw [if_neg hn] at e1
    subst e1
    have q0 : ¬ 9223372036854775807 < (ByteArray.mk #[32]).size + n.size := by have : (ByteArray.mk #[32]).size = 1 := rfl; have : (ByteArray.mk #[32, 97, 116, 32]).size = 4 := rfl; have : (ByteArray.mk #[58, 32]).size = 2 := rfl; omega
    have q0' : ¬ 9223372036854775807 < o.size + (ByteArray.mk #[32] ++ n).size := by rw [ByteArray.size_append]; have : (ByteArray.mk #[32]).size = 1 := rfl; have : (ByteArray.mk #[32, 97, 116, 32]).size = 4 := rfl; have : (ByteArray.mk #[58, 32]).size = 2 := rfl; omega
    by_cases hp : 0 ≤ p
    · have d2 : decide (0 ≤ p) = true := decide_eq_true hp
      obtain ⟨zf, hf⟩ := hF p (hok hp)
      have HF := Lib.hid (fmt_pub p (F p) w (hf w (Below.refl _ _)))
      rw [if_pos hp] at tail
      obtain ⟨f, ef⟩ : ∃ f, F p = f := ⟨_, rfl⟩
      rw [ef] at HF tail zf
      have HTl := Lib.hid (tail _ (by (try simp only [ByteArray.size_append] at z1 ⊢); have : atB.size = 4 := rfl; omega) rfl)
      clear hF hok hf tail ef
      have q1 : ¬ 9223372036854775807 < (ByteArray.mk #[32, 97, 116, 32]).size + f.size := by have : (ByteArray.mk #[32]).size = 1 := rfl; have : (ByteArray.mk #[32, 97, 116, 32]).size = 4 := rfl; have : (ByteArray.mk #[58, 32]).size = 2 := rfl; omega
      have q2 : ¬ 9223372036854775807 < (o ++ ((ByteArray.mk #[32]) ++ n)).size + (ByteArray.mk #[32, 97, 116, 32] ++ f).size := by (try simp only [ByteArray.size_append]); have : (ByteArray.mk #[32]).size = 1 := rfl; have : (ByteArray.mk #[32, 97, 116, 32]).size = 4 := rfl; have : (ByteArray.mk #[58, 32]).size = 2 := rfl; omega
      have q3 : ¬ 9223372036854775807 < ((o ++ ((ByteArray.mk #[32]) ++ n)) ++ (ByteArray.mk #[32, 97, 116, 32] ++ f)).size + (ByteArray.mk #[58, 32]).size := by (try simp only [ByteArray.size_append]); have : (ByteArray.mk #[32]).size = 1 := rfl; have : (ByteArray.mk #[32, 97, 116, 32]).size = 4 := rfl; have : (ByteArray.mk #[58, 32]).size = 2 := rfl; omega
      have q4 : ¬ 9223372036854775807 < ((o ++ ((ByteArray.mk #[32]) ++ n)) ++ (ByteArray.mk #[32, 97, 116, 32] ++ f) ++ ByteArray.mk #[58, 32]).size + t.size := by (try simp only [ByteArray.size_append]); have : (ByteArray.mk #[32]).size = 1 := rfl; have : (ByteArray.mk #[32, 97, 116, 32]).size = 4 := rfl; have : (ByteArray.mk #[58, 32]).size = 2 := rfl; omega
      go_enter Tryd.func73, Tryd.ntmps73
      go_wp2_with fail
      refine HF.out.mono ?_
      rintro e w1 ⟨rfl, hb⟩
      have k3' := (hb.cell (p := ⟨k, 3, none⟩) hlk).trans k3
      have HB := Lib.hid hb
      clear hb
      go_wp2_with fail
      refine (HT.out _ HB.out).mono ?_
      rintro e w2 ⟨rfl, hb⟩
      have HB2 := Lib.hid (bel_trans HB.out hb)
      clear hb
      go_wp2_with fail
      go_ret
      exact ⟨by rw [HTl.out]; rfl, HB2.out⟩
    · have d2 : decide (0 ≤ p) = false := decide_eq_false hp
      rw [if_neg hp] at tail
      have HTl := Lib.hid (tail _ (by (try simp only [ByteArray.size_append] at z1 ⊢); omega) rfl)
      clear hF hok tail
      have q3 : ¬ 9223372036854775807 < (o ++ ((ByteArray.mk #[32]) ++ n)).size + (ByteArray.mk #[58, 32]).size := by (try simp only [ByteArray.size_append]); have : (ByteArray.mk #[32]).size = 1 := rfl; have : (ByteArray.mk #[32, 97, 116, 32]).size = 4 := rfl; have : (ByteArray.mk #[58, 32]).size = 2 := rfl; omega
      have q4 : ¬ 9223372036854775807 < ((o ++ ((ByteArray.mk #[32]) ++ n)) ++ ByteArray.mk #[58, 32]).size + t.size := by (try simp only [ByteArray.size_append]); have : (ByteArray.mk #[32]).size = 1 := rfl; have : (ByteArray.mk #[32, 97, 116, 32]).size = 4 := rfl; have : (ByteArray.mk #[58, 32]).size = 2 := rfl; omega
      go_enter Tryd.func73, Tryd.ntmps73
      go_wp2_with fail
      refine (HT.out _ (Below.refl _ _)).mono ?_
      rintro e w2 ⟨rfl, hb⟩
      have HB2 := Lib.hid hb
      clear hb
      go_wp2_with fail
      go_ret
      exact ⟨by rw [HTl.out]; rfl, HB2.out⟩

def baT (F : Int → ByteArray) : Value → ByteArray
  | .iface _ (.int _ n) => seB ++ F n
  | _ => ⟨#[111, 119, 110]⟩

theorem prt_size (F : Int → ByteArray) (x : Wr) : x.op.size + x.nm.size ≤ (prt F x).size := by
  unfold prt
  by_cases h1 : x.nm = ⟨#[]⟩
  · have : x.nm.size = 0 := by rw [h1]; rfl
    rw [if_pos h1]
    split <;> simp only [ByteArray.size_append] <;> omega
  · rw [if_neg h1]
    split <;> simp only [ByteArray.size_append] <;> omega

set_option maxHeartbeats 1000000 in
theorem text_any (F : Int → ByteArray) (ok : Int → Prop) (b : Value) (hB : Base b) (hb : ∀ n, b = .iface 23 (.int .i64 n) → ok n) : ∀ (l : List Wr) (v : Value) (w : World), Chn w b l v → Fmt w F ok → (∀ x ∈ l, 0 ≤ x.pl → ok x.pl) → (txt F (baT F b) l).size ≤ 1000000000 →
    Calls Tryd.prog 11 #[v] w fun e w' => e = .returned (.string (txt F (baT F b) l)) ∧ Below w.heap.size w w'
  | [], v, w, hc, hF, _, _ => by
    obtain rfl := hc
    rcases hB with ⟨n, rfl⟩ | rfl
    · have H := Lib.hid (errno_any n F ok w hF (hb n rfl))
      have m := mErN
      clear hF hb
      go_enter Tryd.func11, Tryd.ntmps11
      go_wp2_with fail
      refine H.out.mono ?_
      rintro e w1 ⟨rfl, hb⟩
      have HB := Lib.hid hb
      clear hb
      go_wp2_with fail
      go_ret
      exact ⟨rfl, HB.out⟩
    · have m := mErO
      clear hF hb
      go_enter Tryd.func11, Tryd.ntmps11
      go_wp2_with fail
      refine (own_any _).mono ?_
      rintro e w1 ⟨rfl, hb⟩
      have HB := Lib.hid hb
      clear hb
      go_wp2_with fail
      go_ret
      exact ⟨rfl, HB.out⟩
  | x :: l, v, w, hc, hF, hok, hz => by
    obtain ⟨k, u, rfl, hk, hr⟩ := hc
    obtain ⟨tb, xb, eb⟩ := hB.iface
    have hu : ∃ T y, u = .iface T y := by rw [eb] at hr; exact hr.iface
    have hz' : (prt F x).size + (txt F (baT F b) l).size ≤ 1000000000 := by rw [← ByteArray.size_append]; exact hz
    have h1 := prt_size F x
    have H := Lib.hid (err_any F ok x u k (txt F (baT F b) l) w hk hF (hok x (List.mem_cons_self ..)) hu (by omega)
      (fun w' hb' => text_any F ok b hB hb l u w' (hr.keep (fun k hk => hb'.block k hk)) (hF.keep hb') (fun y hy => hok y (List.mem_cons_of_mem _ hy)) (by omega)))
    have m := mErP
    clear hF hok hz hk hr hu eb hb hB hz' h1
    go_enter Tryd.func11, Tryd.ntmps11
    go_wp2_with fail
    refine H.out.mono ?_
    rintro e w1 ⟨rfl, hb⟩
    have HB := Lib.hid hb
    clear hb
    go_wp2_with fail
    go_ret
    exact ⟨rfl, HB.out⟩

end Go.Proofs.YtabjpnggihginaaDoor
