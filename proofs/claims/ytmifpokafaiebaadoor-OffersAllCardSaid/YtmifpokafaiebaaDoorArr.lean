/- VALUES THAT ARE CARRIED WHOLE (arrays of cells): loads, stores, allocations. -/
import Derived.Test.YtmifpokafaiebaaDoorRC4
import Derived.Test.YtmifpokafaiebaaDoorEq
import Derived.Test.YtmifpokafaiebaaDoorR02S
import Derived.Test.YtmifpokafaiebaaDoorQIn
import Derived.Test.YtmifpokafaiebaaDoorMix3
import Derived.Test.YtmifpokafaiebaaDoorPf0
import Derived.Deep.MidRow
import Derived.Laws.IdiomStrings
namespace Go.Proofs.YtmifpokafaiebaaDoor
open Go.RowKit
set_option linter.unusedVariables false
set_option maxRecDepth 100000

theorem rangeAt_up {w w' : World} {b o : Nat} {cs : List Value} (h : w.rangeAt b o cs) (hu : Up w w') : w'.rangeAt b o cs := fun j v hv => by
  have := h j v hv
  exact (hu.below.cell (p := ⟨b, o + j, none⟩) (block_lt_of_cell this)).trans this
theorem rangeAt_lt {w : World} {b o : Nat} {cs : List Value} (h : w.rangeAt b o cs) (hne : 0 < cs.length) : b < w.heap.size := block_lt_of_cell (h 0 cs[0] (by simp [hne]))

/-- at this place lies the link x -/
def Tabs (w : World) : Prop := Tab0 w ∧ Tab w
theorem Tabs.up {w w' : World} (h : Tabs w) (hu : Up w w') : Tabs w' := ⟨h.1.kept (hu.block _ h.1.lt), h.2.kept (hu.block _ h.2.lt)⟩

theorem ownV_of_row {w : World} {b : Nat} {els : List El} {v : Value} {k : Nat} (hk : k = els.length) (hl : k ≤ 65536) (hv : v = .slice (some ⟨b, 0, none⟩) k k) (h : w.heap[b]? = some (.cells (rowV els).toArray 64 (0, 0))) : OwnV w b v els := by
  subst hk hv
  refine ⟨rowV_len els, .inr ⟨b, els.length, _, rfl, Nat.le_refl _, h, Nat.le_refl _, by unfold maxLen; omega, by simp [rowV_len], ?_⟩⟩
  rw [List.take_of_length_le (by simp [rowV_len])]

/-! ### heads, plain -/
def bsOf (l : List UInt8) : ByteArray := ⟨l.toArray⟩
theorem bsOf_list (l : List UInt8) : (bsOf l).data.toList = l := rfl
theorem bsOf_size (l : List UInt8) : (bsOf l).size = l.length := rfl
theorem rangeAt_row {w : World} {b : Nat} {D : Array Value} {t : TypeId} {fr : Nat × Nat} (h : w.heap[b]? = some (.cells D t fr)) : w.rangeAt b 0 D.toList := fun j v hv => by
  rw [cell_of_row w b (0 + j) _ _ _ h, Nat.zero_add, ← Array.getElem?_toList]; exact hv
theorem rangeAt_part {w : World} {b : Nat} {D : Array Value} {t : TypeId} {fr : Nat × Nat} (h : w.heap[b]? = some (.cells D t fr)) (o : Nat) (E : Array Value) (hE : ∀ j, j < E.size → D[o + j]? = E[j]?) : w.rangeAt b o E.toList := fun j v hv => by
  have hj : j < E.size := by have := (List.getElem?_eq_some_iff.1 hv).1; simpa using this
  rw [cell_of_row w b (o + j) _ _ _ h, hE j hj, ← Array.getElem?_toList]; exact hv

theorem setRow_named {W2 W3 : World} {g : Nat} {D old : Array Value} {t : TypeId} {fr : Nat × Nat} (h : W3 = W2.setRow g D) (hg : W2.heap[g]? = some (.cells old t fr)) : W3.heap[g]? = some (.cells D t fr) := by subst h; exact setRow_heap _ _ _ _ _ _ hg
theorem setRow_upN {W W2 W3 : World} {g : Nat} {D : Array Value} (h : W3 = W2.setRow g D) (hu : Up W W2) (hg : W.heap.size ≤ g) : Up W W3 := by subst h; exact below_setRow hu hg _

theorem Up.chg {A B : World} (h : Up A B) (S : Nat → Prop) : Chg S A B := ⟨h.os, h.tape, h.output, h.size, fun k hk _ => h.block k hk⟩

section
variable {P : Program} {ops : Array Oper} {rest : List Oper} {Q : Exit → Act → World → Prop} {a : Act} {w : World}
/-- a block of this type is made -/
def Allocs (P : Program) (ty : TypeId) (n : Nat) : Prop := ∀ w : World, ∃ Z : Array Value, Z.size = n ∧ (Instr.alloc ty true (.tuple #[])).run P w = .ok (.pointer (some ⟨w.heap.size, 0, none⟩)) (w.alloc (.cells Z ty (0, 0)))
/-- a whole row is loaded from the midst of a block -/
theorem wpList_load_arr {o : Oper} (hgd : o.guard = none) (ty : TypeId) (x : Operand) (ho : o.op = .load ty x)
    (b off : Nat) (hx : a.eval x = .pointer (some ⟨b, off, none⟩)) (D : Array Value) (d : TypeDesc) (hc : w.rangeAt b off D.toList)
    (hu : P.underlying ty = some d) (hd : d.isRow = true) (hi : (P.info? ty).map (·.size) = some D.size)
    (h : wpList P ops Q rest (a.put o.dst (.agg D)) w) : wpList P ops Q (o :: rest) a w :=
  wpList_load_mid hgd ty x ho b off hx D.toList d hc hu hd (by rw [hi, Array.length_toList]) (by rw [Array.toArray_toList]; exact h)
theorem run_load_arr {ty : TypeId} {b off : Nat} {D : Array Value} {d : TypeDesc} (hc : w.rangeAt b off D.toList) (hu : P.underlying ty = some d) (hd : d.isRow = true) (hi : (P.info? ty).map (·.size) = some D.size) :
    (Instr.loadAt ty (.pointer (some ⟨b, off, none⟩))).run P w = .ok (.agg D) w := by
  have := run_loadAt_mid (P := P) w b off ty D.toList d hc hu hd (by rw [hi, Array.length_toList])
  rw [Array.toArray_toList] at this
  exact this
theorem wp_allocG {o : Oper} {K : Act → World → Prop} (ty : TypeId) (n : Nat) (hA : Allocs P ty n) (ho : o.op = .alloc ty)
    (h : ∀ W, Up w W → W.heap.size = w.heap.size + 1 → (∃ Z : Array Value, Z.size = n ∧ W.heap[w.heap.size]? = some (.cells Z ty (0, 0))) → K (a.put o.dst (.pointer (some ⟨w.heap.size, 0, none⟩))) W) : o.wp P a w K Q := by
  obtain ⟨Z, hZ, hr⟩ := hA w
  unfold Oper.wp execOp
  simp only [ho, Sem.run_bind, hr, Result.andThen_ok, Sem.run_pure]
  exact h _ ((Up.refl w).alloc _) (by simp) ⟨Z, hZ, heap_new rfl⟩
theorem wpList_allocG {o : Oper} (hgd : o.guard = none) (ty : TypeId) (n : Nat) (hA : Allocs P ty n) (ho : o.op = .alloc ty)
    (h : ∀ W, Up w W → W.heap.size = w.heap.size + 1 → (∃ Z : Array Value, Z.size = n ∧ W.heap[w.heap.size]? = some (.cells Z ty (0, 0))) → wpList P ops Q rest (a.put o.dst (.pointer (some ⟨w.heap.size, 0, none⟩))) W) : wpList P ops Q (o :: rest) a w :=
  wpList_plain hgd fun _ hK => wp_allocG ty n hA ho fun W h1 h2 h3 => hK _ _ (h W h1 h2 h3)

/-- in a quiet region: a whole row is loaded -/
theorem wpQuiet_load_arr {C : World → Prop} {Q : Act → Prop} {o : Oper} (hw : Region.wanted o (yielded ops a.tmps) = true) (ty : TypeId) (x : Operand) (ho : o.op = .load ty x)
    (b off : Nat) (hx : a.eval x = .pointer (some ⟨b, off, none⟩)) (D : Array Value) (d : TypeDesc) (hc : ∀ w, C w → w.rangeAt b off D.toList)
    (hu : P.underlying ty = some d) (hd : d.isRow = true) (hi : (P.info? ty).map (·.size) = some D.size)
    (h : wpQuiet P ops C Q rest (a.put o.dst (.agg D))) : wpQuiet P ops C Q (o :: rest) a := by
  unfold wpQuiet
  rw [if_pos hw]
  refine ⟨.agg D, fun w hw' => ?_, h⟩
  have hr := run_load_arr (P := P) (w := w) (hc w hw') hu hd hi
  unfold Oper.quietAt execOp
  simp only [ho, hx, Sem.run_bind, hr, Result.andThen_ok, Sem.run_pure]
  exact ⟨rfl, rfl⟩

theorem wpStillC_load_arr {C : World → Prop} {Q : Act → Prop} {o : Oper} (hw : Region.wanted o (yielded ops a.tmps) = true) (ty : TypeId) (x : Operand) (ho : o.op = .load ty x)
    (b off : Nat) (hx : a.eval x = .pointer (some ⟨b, off, none⟩)) (D : Array Value) (d : TypeDesc) (hc : ∀ w, C w → w.rangeAt b off D.toList)
    (hu : P.underlying ty = some d) (hd : d.isRow = true) (hi : (P.info? ty).map (·.size) = some D.size)
    (h : wpStillC P ops C Q rest (a.put o.dst (.agg D))) : wpStillC P ops C Q (o :: rest) a := by
  unfold wpStillC
  rw [if_pos hw]
  refine ⟨.agg D, fun w hw' => ?_, h⟩
  have hr := run_load_arr (P := P) (w := w) (hc w hw') hu hd hi
  unfold Oper.quietAt execOp
  simp only [ho, hx, Sem.run_bind, hr, Result.andThen_ok, Sem.run_pure]
  exact ⟨rfl, rfl⟩

/-! the same inside a fence -/
variable {F : Fence} {n : Nat}
theorem wpListIn_load_arr (hF : WideF F) {o : Oper} (hgd : o.guard = none) (ty : TypeId) (x : Operand) (ho : o.op = .load ty x)
    (b off : Nat) (hx : a.eval x = .pointer (some ⟨b, off, none⟩)) (D : Array Value) (d : TypeDesc) (hc : w.rangeAt b off D.toList)
    (hu : P.underlying ty = some d) (hd : d.isRow = true) (hi : (P.info? ty).map (·.size) = some D.size)
    (h : wpListIn F n P ops Q rest (a.put o.dst (.agg D)) w) : wpListIn F n P ops Q (o :: rest) a w :=
  wpListIn_of_wp hF hgd (fun c e => by rw [ho] at e; cases e) fun K hK => wp_load_mid ty x ho b off hx D.toList d hc hu hd (by rw [hi, Array.length_toList]) (by rw [Array.toArray_toList]; exact hK _ _ h)
theorem wpListIn_allocG (hF : WideF F) {o : Oper} (hgd : o.guard = none) (ty : TypeId) (m : Nat) (hA : Allocs P ty m) (ho : o.op = .alloc ty)
    (h : ∀ W, Up w W → W.heap.size = w.heap.size + 1 → (∃ Z : Array Value, Z.size = m ∧ W.heap[w.heap.size]? = some (.cells Z ty (0, 0))) → wpListIn F n P ops Q rest (a.put o.dst (.pointer (some ⟨w.heap.size, 0, none⟩))) W) : wpListIn F n P ops Q (o :: rest) a w :=
  wpListIn_of_wp hF hgd (fun c e => by rw [ho] at e; cases e) fun K hK => wp_allocG ty m hA ho fun W h1 h2 h3 => hK _ _ (h W h1 h2 h3)
theorem wpListIn_store_row (hF : WideF F) {o : Oper} (hgd : o.guard = none) (ty : TypeId) (x y : Operand) (ho : o.op = .store ty x y)
    (g : Nat) (cells : Array Value) (hx : a.eval x = .pointer (some ⟨g, 0, none⟩)) (hy : a.eval y = .agg cells)
    (t : TypeId) (old : Array Value) (hg : w.heap[g]? = some (.cells old t (0, 0))) (hi : (P.info? ty).map (·.size) = some cells.size)
    (hold : old.size = cells.size) (h1 : cells.all (·.oneCell') = true)
    (h : wpListIn F n P ops Q rest (a.put o.dst undef) (w.setRow g cells)) : wpListIn F n P ops Q (o :: rest) a w :=
  wpListIn_of_wp hF hgd (fun c e => by rw [ho] at e; cases e) fun K hK => wp_store_row ty x y ho g cells hx hy t old hg hi hold h1 (hK _ _ h)
theorem wpIn_named {c : Code} {w0 : World} (h : ∀ W, W = w0 → c.wpIn F n P Q a W) : c.wpIn F n P Q a w0 := h _ rfl
theorem wpListIn_named {l : List Oper} {w0 : World} (h : ∀ W, W = w0 → wpListIn F n P ops Q l a W) : wpListIn F n P ops Q l a w0 := h _ rfl
end
theorem allocsDigest : Allocs Tryd.prog 47 32 := fun w =>
  ⟨(((Tryd.prog.info? 47).bind (·.zero)).getD undef).cells, by kernel_rfl, by kernel_rfl⟩

theorem run_text_of (w : World) (p : Option Addr) (c : Nat) (l : List UInt8) (h : SB w p l) :
    (convert 27 9 (.slice p l.length c)).run Tryd.prog w = .ok (.string (bsOf l)) w := by
  have := run_bytes_string w p c (bsOf l) h
  exact this

theorem u8s_arr (l : List UInt8) : (u8s l).toArray.size = l.length := by simp [u8s_length]

end Go.Proofs.YtmifpokafaiebaaDoor
