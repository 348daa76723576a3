/- OffersAll: what is kept while seals and offers are appended. -/
import Derived.Test.YtmifpokafaiebaaDoorAlC
import Derived.Test.YtmifpokafaiebaaDoorLoOrd
namespace Go.Proofs.YtmifpokafaiebaaDoor
open Go Go.RowKit Go.Maps
set_option linter.unusedVariables false
set_option maxRecDepth 100000

theorem eltSealA : EltT Tryd.prog 34 52 2 32 := ⟨rfl, _, _, rfl, rfl, by kernel_rfl, by kernel_rfl, by kernel_rfl⟩
theorem slCells_oneA (s : SlA) : ∀ u ∈ slCells s, u.oneCell' = true := slCells_one s
theorem blk_app {w w' : World} {α : Type} {enc : α → List Value} {base k b : Nat} {E T : TypeId} {fr : Nat × Nat} {D : Array Value} {v v' : Value} {l : List α} (h : w.heap[b]? = some (.cells D T fr)) (ho : OwnR w base E k enc v l) (hg : Grow w w' v v') (hE : E ≠ T) : w'.heap[b]? = some (.cells D T fr) := by
  refine (hg.grown.block b (lt_of_block h) fun e => ?_).trans h
  obtain ⟨cur, hc⟩ := ho.isR b e.symm
  rw [h] at hc
  injection hc with hc
  injection hc with h1 h2
  exact hE h2.symm
structure SI (W6 W : World) (b7 bx : Nat) (B : Array Value) (vS vA : Value) (LS : List SlA) (LA : List OfA) (DS : List SlA) (n : Nat) (f : Lit → Option Value) : Prop where
  bel : Below b7 W6 W
  op : W.heap[bx]? = some (.cells B 44 (0, 0))
  os : OwnR W b7 52 2 slCells vS LS
  oa : OwnR W b7 26 6 ofCells vA LA
  db : ∀ s ∈ DS, DigB W s
  mp : MapL W 9 b7 n f
variable {W6 W W' : World} {b7 bx : Nat} {B : Array Value} {vS vA v' : Value} {LS LS' : List SlA} {LA LA' : List OfA} {DS : List SlA} {n : Nat} {f : Lit → Option Value}
theorem SI.up (h : SI W6 W b7 bx B vS vA LS LA DS n f) (hu : Up W W') : SI W6 W' b7 bx B vS vA LS LA DS n f :=
  ⟨h.bel.trans (Up.below2 hu (Nat.le_of_lt h.mp.lt)), (hu.block _ (lt_of_block h.op)).trans h.op, h.os.up hu, h.oa.up hu, fun s hs => (h.db s hs).up hu, h.mp.up hu⟩
theorem SI.appS (h : SI W6 W b7 bx B vS vA LS LA DS n f) (o : OwnR W' b7 52 2 slCells v' LS') (hb : Below b7 W W') (g : Grow W W' vS v') : SI W6 W' b7 bx B v' vA LS' LA DS n f :=
  ⟨h.bel.trans hb, blk_app h.op h.os g (by decide), o, h.oa.app h.os g (by decide), fun s hs => (h.db s hs).app h.os g (by decide), h.mp.app h.os g⟩
theorem SI.appA (h : SI W6 W b7 bx B vS vA LS LA DS n f) (o : OwnR W' b7 26 6 ofCells v' LA') (hb : Below b7 W W') (g : Grow W W' vA v') : SI W6 W' b7 bx B vS v' LS LA' DS n f :=
  ⟨h.bel.trans hb, blk_app h.op h.oa g (by decide), h.os.app h.oa g (by decide), o, fun s hs => (h.db s hs).app h.oa g (by decide), h.mp.app h.oa g⟩
theorem SI.size (h : SI W6 W b7 bx B vS vA LS LA DS n f) : b7 ≤ W.heap.size := Nat.le_of_lt h.mp.lt

end Go.Proofs.YtmifpokafaiebaaDoor
