/- souklaw04.works. -/
import Derived.Test.YtabjpnggihginaaDoorFltJ
namespace Go.Proofs.YtabjpnggihginaaDoor
open Go.RowKit Go.Extern.Stop Go.Stop Go.Extern Go.Shelf

theorem ops_any (l : List Wr) (b0 : Value) (hB : Base b0) (v : Value) (w : World) (hc : Chn w b0 l v) (hT : ErrT w) (hl : l.length ≤ 1000000) :
    Calls Tryd.prog 14 #[v] w fun e w' => ∃ oa cap, e = .returned (.slice oa l.length cap) ∧ w'.ownsRow w.heap.size 9 1 (.slice oa l.length cap) l.length (l.map fun x => .string x.op) ∧ Below w.heap.size w w' :=
  (callsIn_wide (n := 3)).1 (ops_in l b0 hB v w hc hT hl)
theorem find_any (l : List Wr) (b0 : Value) (hB : Base b0) (v : Value) (o : ByteArray) (w : World) (hc : Chn w b0 l v) (hT : ErrT w) :
    Calls Tryd.prog 15 #[v, .string o] w fun e w' => e = .returned (fndV o l) ∧ Below w.heap.size w w' :=
  (callsIn_wide (n := 3)).1 (find_in l b0 hB v o w hc hT)

def bAppend : ByteArray := ⟨#[97, 112, 112, 101, 110, 100]⟩
def bS1 : ByteArray := ⟨#[115, 49]⟩
def bSubmit : ByteArray := ⟨#[115, 117, 98, 109, 105, 116]⟩
theorem wrap_chn (l : List Wr) (b : Value) (hB : Base b) (v : Value) (o n : ByteArray) (a : Int) (w : World) (hc : Chn w b l v) :
    Calls Tryd.prog 13 #[v, .string o, .string n, .int .i64 a] w fun e w' => ∃ v', e = .returned v' ∧ Chn w' b (⟨o, n, a⟩ :: l) v' ∧ Below w.heap.size w w' := by
  obtain ⟨tb, xb, rfl⟩ := hB.iface
  obtain ⟨t, y, rfl⟩ := hc.iface
  refine (wrap_any t y o n a w).mono ?_
  rintro e w' ⟨rfl, rfl⟩
  exact ⟨_, rfl, hc.wrap o n a, (Below.refl _ _).alloc (Nat.le_refl _) _⟩
theorem Chn.on {w w' : World} {b : Value} {l : List Wr} {v : Value} (h : Chn w b l v) (hb : Below w.heap.size w w') : Chn w' b l v := h.keep (fun k hk => hb.block k hk)
/-- FormatInt, of what the examples show -/
def FmtS (w : World) (F : Int → ByteArray) (ok : Int → Prop) : Prop := Fmt w F ok ∧ ok 44 ∧ ok 7 ∧ F 44 = ⟨#[52, 52]⟩ ∧ F 7 = ⟨#[55]⟩
theorem FmtS.keep {w w' : World} {F : Int → ByteArray} {ok : Int → Prop} (h : FmtS w F ok) (hb : Below w.heap.size w w') : FmtS w' F ok := ⟨h.1.keep hb, h.2⟩

theorem cellK {w w' : World} {k : Nat} {o : Nat} {v : Value} (h : w.cell? ⟨k, o, none⟩ = some v) (hb : Below w.heap.size w w') : w'.cell? ⟨k, o, none⟩ = some v :=
  (hb.cell (p := ⟨k, o, none⟩) (World.block_lt_of_cell? _ _ h)).trans h

theorem own_cells {w : World} {B n cap : Nat} {e : TypeId} {oa : Option Addr} {xs : List Value} (h : w.ownsRow B e 1 (.slice oa n cap) n xs) (hn : 0 < n) : ∃ g, oa = some ⟨g, 0, none⟩ ∧ n ≤ cap ∧ ∀ j u, xs[j]? = some u → w.cell? ⟨g, j, none⟩ = some u := by
  rcases h.2 with ⟨hv, h0⟩ | ⟨g, c, cur, hv, _, hcur, hc1, _, hsz, htk⟩
  · omega
  · obtain ⟨rfl, _, rfl⟩ := Value.slice.inj hv
    refine ⟨g, rfl, hc1, fun j u hj => ?_⟩
    rw [cell_of_row _ _ _ _ _ _ hcur]
    rw [← htk, List.getElem?_take] at hj
    split at hj
    · simpa using hj
    · cases hj
def exT : List UInt8 := [115, 117, 98, 109, 105, 116, 58, 32, 97, 112, 112, 101, 110, 100, 32, 115, 49, 32, 97, 116, 32, 55, 58, 32, 115, 111, 117, 107, 58, 32, 101, 114, 114, 111, 114, 32, 52, 52]
theorem ex_text (F : Int → ByteArray) (h44 : F 44 = ⟨#[52, 52]⟩) (h7 : F 7 = ⟨#[55]⟩) :
    txt F (baT F (.iface 23 (.int .i64 44))) [⟨⟨#[115, 117, 98, 109, 105, 116]⟩, ⟨#[]⟩, -1⟩, ⟨⟨#[97, 112, 112, 101, 110, 100]⟩, ⟨#[115, 49]⟩, 7⟩] = ⟨exT.toArray⟩ := by
  unfold txt txt txt prt baT
  dsimp only
  rw [h44, h7, if_neg (by decide : ¬ (0 : Int) ≤ -1)]
  decide +kernel

set_option maxRecDepth 20000 in
set_option maxHeartbeats 2000000 in
theorem works_any (F : Int → ByteArray) (ok : Int → Prop) (w : World) (hF : FmtS w F ok) (hT : ErrT w) :
    Calls Tryd.prog 8 #[] w fun e w' => e = .returned (.bool true) ∧ Below w.heap.size w w' := by
  have hB : Base (.iface 23 (.int .i64 44)) := .inl ⟨44, rfl⟩
  have HF := Lib.hid hF
  have HT := Lib.hid hT
  clear hF hT
  go_enter Tryd.func8, Tryd.ntmps8
  go_wp2_with fail
  refine (wrap_chn [] _ hB _ _ _ _ _ rfl).mono ?_
  rintro e w1 ⟨v1, rfl, hc1, hb1⟩
  have HC1 := Lib.hid hc1
  have HB1 := Lib.hid hb1
  clear hc1 hb1
  go_wp2_with fail
  refine (wrap_chn _ _ hB _ _ _ _ _ HC1.out).mono ?_
  rintro e w2 ⟨v2, rfl, hc2, hb2⟩
  have HC2 := Lib.hid hc2
  have HB2 := Lib.hid (bel_trans HB1.out hb2)
  clear hc2 hb2 HC1
  go_wp2_with fail
  refine (code_int _ 44 v2 w2 HC2.out (HT.out.keep HB2.out)).mono ?_
  rintro e w3 ⟨rfl, hb3⟩
  have HC3 := Lib.hid (HC2.out.on hb3)
  have HB3 := Lib.hid (bel_trans HB2.out hb3)
  clear hb3 HC2
  go_wp2_with fail
  refine (find_any _ _ hB v2 _ w3 HC3.out (HT.out.keep HB3.out)).mono ?_
  rintro e w4 ⟨rfl, hb4⟩
  have HC4 := Lib.hid (HC3.out.on hb4)
  have HB4 := Lib.hid (bel_trans HB3.out hb4)
  rw [show fndV (ByteArray.mk #[97, 112, 112, 101, 110, 100]) [⟨⟨#[115, 117, 98, 109, 105, 116]⟩, ⟨#[]⟩, -1⟩, ⟨⟨#[97, 112, 112, 101, 110, 100]⟩, ⟨#[115, 49]⟩, 7⟩] = .tuple #[.string ⟨#[115, 49]⟩, .int .i64 7, .bool true] by
    unfold fndV
    rw [show fstW (ByteArray.mk #[97, 112, 112, 101, 110, 100]) [⟨⟨#[115, 117, 98, 109, 105, 116]⟩, ⟨#[]⟩, -1⟩, ⟨⟨#[97, 112, 112, 101, 110, 100]⟩, ⟨#[115, 49]⟩, 7⟩] = some ⟨⟨#[97, 112, 112, 101, 110, 100]⟩, ⟨#[115, 49]⟩, 7⟩ from by rw [fstW, if_neg (by decide +kernel), fstW, if_pos rfl]]]
  clear hb4 HC3
  go_wp2_with fail
  refine (ops_any _ _ hB v2 w4 HC4.out (HT.out.keep HB4.out) (by simp)).mono ?_
  rintro e w5 ⟨oa, cap, rfl, ho, hb5⟩
  have HC5 := Lib.hid (HC4.out.on hb5)
  have HB5 := Lib.hid (bel_trans HB4.out hb5)
  have HO := Lib.hid ho
  clear hb5 ho HC4
  go_wp2_with fail
  obtain ⟨g, rfl, hcap, hcells⟩ := own_cells HO.out (by simp)
  have q0 : w5.cell? ⟨g, 0, none⟩ = some (.string ⟨#[115, 117, 98, 109, 105, 116]⟩) := hcells 0 _ rfl
  have q1 : w5.cell? ⟨g, 1, none⟩ = some (.string ⟨#[97, 112, 112, 101, 110, 100]⟩) := hcells 1 _ rfl
  have hFm := HF.out
  have HX := Lib.hid (text_any F ok _ hB (fun n e => by cases e; exact hFm.2.1) _ v2 w5 HC5.out (hFm.1.keep HB5.out) (fun x hx hp => by
    rcases List.mem_cons.1 hx with rfl | hx
    · exact absurd hp (by decide)
    · obtain rfl := List.mem_singleton.1 hx; exact hFm.2.2.1) (by rw [ex_text F hFm.2.2.2.1 hFm.2.2.2.2]; decide +kernel))
  rw [ex_text F hFm.2.2.2.1 hFm.2.2.2.2] at HX
  unfold exT at HX
  clear hFm hcells HO
  refine HX.out.mono ?_
  rintro e w6 ⟨rfl, hb6⟩
  have HC6 := Lib.hid (HC5.out.on hb6)
  have HB6 := Lib.hid (bel_trans HB5.out hb6)
  have p0 := cellK q0 hb6
  have p1 := cellK q1 hb6
  clear hb6 HC5 q0 q1
  go_wp2_with fail
  refine (in_int _ 44 v2 4 (by decide) w6 HC6.out (HT.out.keep HB6.out)).mono ?_
  rintro e w7 ⟨rfl, hb7⟩
  have HB7 := Lib.hid (bel_trans HB6.out hb7)
  have r0 := cellK p0 hb7
  have r1 := cellK p1 hb7
  rw [show decide (ofC 44 = 4) = true by decide]
  clear hb7 HC6 p0 p1
  go_wp2_with fail
  go_ret
  exact ⟨rfl, HB7.out⟩
end Go.Proofs.YtabjpnggihginaaDoor
