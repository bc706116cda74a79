/- The map of FaultNames: built key by key, gone over; fault.Class.Error. -/
import Derived.Test.YtabjpnggihginaaDoorFltK
import Derived.Maps.RangeWalk
import Derived.Maps.Views
namespace Go
open Go.Maps (Keyed)
/-- an entry of a map literal ('Op.insert' runs as 'm[k] = v') -/
theorem wpList_insert_own {H : Type} {P : Program} (w : World) {ops : Array Oper} {rest : List Oper} {o : Oper} {a : Act} {Q : Exit → Act → World → Prop}
    (hg : o.guard = none) (m x v : Operand) (t : TypeId) (hop : o.op = Op.insert t m x v)
    (k e : TypeId) (K : Keyed P k) (ht : P.underlying t = some (.map k e)) (R : Value → Option (DataW H × List MemPlace)) (b n : Nat) (D : DataW H)
    (hm : a.eval m = .map (some b)) (hown : w.ownsMap P k R b n D) (hn : n < maxLen) (key val : Value) (kl : Lit) (hx : a.eval x = key) (hv : a.eval v = val) (hkey : keyOf P k key = some kl)
    (d : DataW H) (ps : List MemPlace) (hval : R val = some (d, ps))
    (hK : ∀ w', w'.ownsMap P k R b (n + 1) (D.put kl d) → w.grownBy w' (some b) → wpList P ops Q rest (a.put o.dst undef) w') :
    wpList P ops Q (o :: rest) a w := by
  refine wpList_plain hg fun K' hK' => ?_
  obtain ⟨w', hrun, r1, r2⟩ := hown.update K ht hn hkey hval
  unfold Oper.wp
  simp [execOp, hop, hm, hx, hv, hrun, Result.andThen]
  exact hK' _ _ (hK w' r1 r2)
end Go
namespace Go.Proofs.YtabjpnggihginaaDoor
open Go.RowKit Go.Extern.Stop Go.Stop Go.Extern Go.Shelf
open Go.Maps (Keyed IsMap)

theorem lawE : Keyed Tryd.prog 23 := Maps.int_keyed Tryd.underlying23
/-- what the map says of a key is whose fault it is -/
def Tells (D : DataW Unit) : Prop := ∀ x c : Int, (∀ zd, D.atKey (.int .i64 x) zd = .lit (.int .u8 c)) → c = ofC x
structure MpAt (w0 w : World) (b n : Nat) (D : DataW Unit) : Prop where
  own : w.ownsMap Tryd.prog 23 (plainElem Tryd.prog 37) b n D
  ism : IsMap D
  tells : Tells D
  bel : Below w0.heap.size w0 w
  new : w0.heap.size ≤ b
theorem Tells.nil : Tells (.map []) := fun x c h => by
  have h1 := h (.lit (.int .u8 (c + 1)))
  rw [show (DataW.map [] : DataW Unit).atKey (.int .i64 x) (.lit (.int .u8 (c + 1))) = .lit (.int .u8 (c + 1)) from rfl] at h1
  simp only [DataW.lit.injEq, Lit.int.injEq, true_and] at h1
  omega
theorem Tells.put {D : DataW Unit} (h : Tells D) (hi : IsMap D) (k v : Int) (hv : v = ofC k) : Tells (D.put (.int .i64 k) (.lit (.int .u8 v))) := fun x c hx => by
  by_cases e : x = k
  · subst e
    have h1 := hx .nil
    rw [Maps.atKey_put_same hi (by trivial)] at h1
    simp only [DataW.lit.injEq, Lit.int.injEq, true_and] at h1
    omega
  · refine h x c fun zd => ?_
    rw [← hx zd, Maps.atKey_put_other (by intro e'; cases e'; exact e rfl)]
theorem MpAt.made {w0 w : World} (h : Below w0.heap.size w0 w) : MpAt w0 (w.alloc (.map #[] 0)) w.heap.size 0 (.map []) :=
  ⟨World.ownsMap_made _ _ _ _, Maps.isMap_empty, Tells.nil, h.alloc h.size _, h.size⟩
theorem wpList_insert_mp (w : World) {ops : Array Oper} {rest : List Oper} {o : Oper} {a : Act} {Q : Exit → Act → World → Prop}
    (hg : o.guard = none) (m x v : Operand) (hop : o.op = Op.insert 38 m x v) (w0 : World) (b n : Nat) (D : DataW Unit)
    (hm : a.eval m = .map (some b)) (h : MpAt w0 w b n D) (hn : n < 1000) (k c : Int) (hx : a.eval x = .int .i64 k) (hv : a.eval v = .int .u8 c) (hk : (Lit.int .i64 k).wf = true) (hcw : (Lit.int .u8 c).wf = true) (hc : c = ofC k)
    (hK : ∀ w' D', MpAt w0 w' b (n + 1) D' → wpList Tryd.prog ops Q rest (a.put o.dst undef) w') :
    wpList Tryd.prog ops Q (o :: rest) a w := by
  refine wpList_insert_own w hg m x v _ hop 23 37 lawE Tryd.underlying38 _ b n D hm h.own (Nat.lt_trans hn (by decide)) _ _ (.int .i64 k) hx hv ?_ (.lit (.int .u8 c)) [] (plainElem_int Tryd.underlying37 hcw) ?_
  · simp [keyOf, Tryd.underlying23, mapKey, hk]
  · intro w' h1 h2
    exact hK w' _ ⟨h1, h.ism.put _ _, h.tells.put h.ism k c hc, h.bel.grown h2 h.bel.size (fun j e => by cases e; exact h.new), h.new⟩

def nmOf (c : Nat) : ByteArray := if c = 0 then ⟨#[110, 111, 110, 101]⟩ else if c = 1 then ⟨#[99, 97, 108, 108, 101, 114]⟩ else if c = 2 then ⟨#[98, 121, 116, 101, 115]⟩ else if c = 3 then ⟨#[109, 97, 114, 107, 101, 116]⟩ else ⟨#[100, 105, 115, 107]⟩
/-- the variable fault.names, as its initialiser lays it -/
def NmsT (w : World) : Prop := ∀ c < 5, w.cell? ⟨0, c, none⟩ = some (.string (nmOf c))
theorem NmsT.lt {w : World} (h : NmsT w) : 0 < w.heap.size := World.block_lt_of_cell? _ _ (h 0 (by decide))
theorem NmsT.keep {w w' : World} (h : NmsT w) (hb : Below w.heap.size w w') : NmsT w' := fun c hc => (hb.cell (p := ⟨0, c, none⟩) h.lt).trans (h c hc)
set_option maxRecDepth 20000 in
set_option maxHeartbeats 1000000 in
theorem clsE_any (c : Nat) (hc : c < 5) (w : World) (h : NmsT w) : Calls Tryd.prog 18 #[.int .u8 c] w fun e w' => e = .returned (.string (nmOf c)) ∧ w' = w := by
  have hh := h c hc
  have hp : (w.cell? ⟨0, c, none⟩).isSome = true := by rw [hh]; rfl
  have hm : min (c : Int) 4 = (c : Int) := by omega
  have hc4 : (c : Int) < 5 := by omega
  clear h
  go_enter Tryd.func18, Tryd.ntmps18
  go_wp2_with fail
  go_ret
  exact ⟨rfl, rfl⟩
end Go.Proofs.YtabjpnggihginaaDoor
