/- chain.list, number and the reference's number. LINKS IN MEMORY. chain.text, Head; the reference's text, Text, Head. chain.Head. The reference's Text, Head. -/
import Derived.Test.YtpafambdccejnaaDoorRC4
import Derived.Test.YtpafambdccejnaaDoorEq
import Derived.Test.YtpafambdccejnaaDoorR02T
import Derived.Test.YtpafambdccejnaaDoorQIn
import Derived.Test.YtpafambdccejnaaDoorMix3
import Derived.Test.YtpafambdccejnaaDoorTag
import Derived.Deep.MidRow
import Derived.Laws.IdiomStrings
namespace Go.Proofs.YtpafambdccejnaaDoor
open Go.RowKit
set_option linter.unusedVariables false

theorem ch_list (p : Option Addr) (n c : Nat) (w : World) : Calls Tryd.prog 27 #[.slice p n c] w fun e w' => e = .returned (.agg #[.int .i64 3, .int .i64 0, .string ⟨#[]⟩, .slice p n c]) ∧ Up w w' := by
  go_enter Tryd.func27, Tryd.ntmps27
  go_wp2
  refine bodyPost_nm ?_
  intro W hW
  have hx : W.heap[w.heap.size]? = some (.cells #[.int .i64 3, .int .i64 0, .string ⟨#[]⟩, .slice p n c] 52 (0, 0)) := by rw [hW, heap_new rfl]
  have U : Up w W := by rw [hW]; exact (Up.refl w).alloc _
  have q0 : W.cell? ⟨w.heap.size, 0, none⟩ = some (.int .i64 3) := by rw [cell_of_row W w.heap.size 0 _ _ _ hx]; rfl
  have q1 : W.cell? ⟨w.heap.size, 1, none⟩ = some (.int .i64 0) := by rw [cell_of_row W w.heap.size 1 _ _ _ hx]; rfl
  have q2 : W.cell? ⟨w.heap.size, 2, none⟩ = some (.string ⟨#[]⟩) := by rw [cell_of_row W w.heap.size 2 _ _ _ hx]; rfl
  have q3 : W.cell? ⟨w.heap.size, 3, none⟩ = some (.slice p n c) := by rw [cell_of_row W w.heap.size 3 _ _ _ hx]; rfl
  clear hW
  refine bodyPost_ret (v := .agg #[.int .i64 3, .int .i64 0, .string ⟨#[]⟩, .slice p n c]) (by simp [results, Tryd.results27, go_sem, q0, q1, q2, q3]) rfl ⟨rfl, U⟩

theorem ch_number (n : Int) (w : World) : Calls Tryd.prog 28 #[.int .i64 n] w fun e w' => e = .returned (.agg #[.int .i64 1, .int .i64 n, .string ⟨#[]⟩, .slice none 0 0]) ∧ Up w w' := by
  go_enter Tryd.func28, Tryd.ntmps28
  go_wp2
  refine bodyPost_nm ?_
  intro W hW
  have hx : W.heap[w.heap.size]? = some (.cells #[.int .i64 1, .int .i64 n, .string ⟨#[]⟩, .slice none 0 0] 52 (0, 0)) := by rw [hW, heap_new rfl]
  have U : Up w W := by rw [hW]; exact (Up.refl w).alloc _
  have q0 : W.cell? ⟨w.heap.size, 0, none⟩ = some (.int .i64 1) := by rw [cell_of_row W w.heap.size 0 _ _ _ hx]; rfl
  have q1 : W.cell? ⟨w.heap.size, 1, none⟩ = some (.int .i64 n) := by rw [cell_of_row W w.heap.size 1 _ _ _ hx]; rfl
  have q2 : W.cell? ⟨w.heap.size, 2, none⟩ = some (.string ⟨#[]⟩) := by rw [cell_of_row W w.heap.size 2 _ _ _ hx]; rfl
  have q3 : W.cell? ⟨w.heap.size, 3, none⟩ = some (.slice none 0 0) := by rw [cell_of_row W w.heap.size 3 _ _ _ hx]; rfl
  clear hW
  refine bodyPost_ret (v := .agg #[.int .i64 1, .int .i64 n, .string ⟨#[]⟩, .slice none 0 0]) (by simp [results, Tryd.results28, go_sem, q0, q1, q2, q3]) rfl ⟨rfl, U⟩

theorem rch_number (n : Int) (w : World) : Calls Tryd.prog 39 #[.int .i64 n] w fun e w' => e = .returned (.agg #[.int .i64 1, .int .i64 n, .string ⟨#[]⟩, .slice none 0 0]) ∧ Up w w' := by
  go_enter Tryd.func39, Tryd.ntmps39
  go_wp2
  refine bodyPost_nm ?_
  intro W hW
  have hx : W.heap[w.heap.size]? = some (.cells #[.int .i64 1, .int .i64 n, .string ⟨#[]⟩, .slice none 0 0] 52 (0, 0)) := by rw [hW, heap_new rfl]
  have U : Up w W := by rw [hW]; exact (Up.refl w).alloc _
  have q0 : W.cell? ⟨w.heap.size, 0, none⟩ = some (.int .i64 1) := by rw [cell_of_row W w.heap.size 0 _ _ _ hx]; rfl
  have q1 : W.cell? ⟨w.heap.size, 1, none⟩ = some (.int .i64 n) := by rw [cell_of_row W w.heap.size 1 _ _ _ hx]; rfl
  have q2 : W.cell? ⟨w.heap.size, 2, none⟩ = some (.string ⟨#[]⟩) := by rw [cell_of_row W w.heap.size 2 _ _ _ hx]; rfl
  have q3 : W.cell? ⟨w.heap.size, 3, none⟩ = some (.slice none 0 0) := by rw [cell_of_row W w.heap.size 3 _ _ _ hx]; rfl
  clear hW
  refine bodyPost_ret (v := .agg #[.int .i64 1, .int .i64 n, .string ⟨#[]⟩, .slice none 0 0]) (by simp [results, Tryd.results39, go_sem, q0, q1, q2, q3]) rfl ⟨rfl, U⟩

end Go.Proofs.YtpafambdccejnaaDoor

namespace Go.Proofs.YtpafambdccejnaaDoor
open Go.RowKit
set_option linter.unusedVariables false

structure Lk where
  node : Int
  no : Int
  prev : List UInt8
  data : List UInt8

def i64In (n : Int) : Prop := -9223372036854775808 ≤ n ∧ n ≤ 9223372036854775807
structure Lk.ok (x : Lk) : Prop where
  node : i64In x.node
  no : i64In x.no
  prev : x.prev.length = 32
  data : x.data.length ≤ 300

/-- the cells of a link -/
def lkCells (x : Lk) (p : Option Addr) (c : Nat) : List Value := .int .i64 x.node :: .int .i64 x.no :: (u8s x.prev ++ [.slice p x.data.length c])
theorem lkCells_len {x : Lk} (h : x.prev.length = 32) (p : Option Addr) (c : Nat) : (lkCells x p c).length = 35 := by simp [lkCells, u8s_length, h]
theorem lkCells_one (x : Lk) (p : Option Addr) (c : Nat) : ∀ v ∈ lkCells x p c, v.oneCell' = true := by
  intro v hv
  simp only [lkCells, List.mem_cons, List.mem_append, List.not_mem_nil, or_false] at hv
  rcases hv with rfl | rfl | hv | rfl
  · rfl
  · rfl
  · exact u8s_one _ v hv
  · rfl

/-- these cells are the link x -/
def LkV (w : World) (cs : List Value) (x : Lk) : Prop := ∃ p c, cs = lkCells x p c ∧ x.data.length ≤ c ∧ c ≤ maxLen ∧ SB w p x.data
theorem LkV.up {w w' : World} {cs : List Value} {x : Lk} (h : LkV w cs x) (hu : Up w w') : LkV w' cs x := by
  obtain ⟨p, c, h1, h2, h3, h4⟩ := h
  exact ⟨p, c, h1, h2, h3, h4.up hu⟩
theorem LkV.len {w : World} {cs : List Value} {x : Lk} (h : LkV w cs x) (hx : x.prev.length = 32) : cs.length = 35 := by
  obtain ⟨p, c, rfl, _⟩ := h; exact lkCells_len hx p c
theorem LkV.one {w : World} {cs : List Value} {x : Lk} (h : LkV w cs x) : ∀ v ∈ cs, v.oneCell' = true := by
  obtain ⟨p, c, rfl, _⟩ := h; exact lkCells_one x p c

theorem rangeAt_up {w w' : World} {b o : Nat} {cs : List Value} (h : w.rangeAt b o cs) (hu : Up w w') : w'.rangeAt b o cs := fun j v hv => by
  have := h j v hv
  exact (hu.below.cell (p := ⟨b, o + j, none⟩) (block_lt_of_cell this)).trans this
theorem rangeAt_lt {w : World} {b o : Nat} {cs : List Value} (h : w.rangeAt b o cs) (hne : 0 < cs.length) : b < w.heap.size := block_lt_of_cell (h 0 cs[0] (by simp [hne]))

/-- at this place lies the link x -/
def LkAt (w : World) (b o : Nat) (x : Lk) : Prop := ∃ cs, LkV w cs x ∧ w.rangeAt b o cs
theorem LkAt.up {w w' : World} {b o : Nat} {x : Lk} (h : LkAt w b o x) (hu : Up w w') : LkAt w' b o x := by
  obtain ⟨cs, h1, h2⟩ := h; exact ⟨cs, h1.up hu, rangeAt_up h2 hu⟩

/-- from this address on lie these links -/
def Links (w : World) (p : Option Addr) (ls : List Lk) : Prop := ls ≠ [] → ∃ b o, p = some ⟨b, o, none⟩ ∧ ∀ i (h : i < ls.length), LkAt w b (o + i * 35) ls[i]
theorem Links.up {w w' : World} {p : Option Addr} {ls : List Lk} (h : Links w p ls) (hu : Up w w') : Links w' p ls := fun hne => by
  obtain ⟨b, o, e, hi⟩ := h hne
  exact ⟨b, o, e, fun i h => (hi i h).up hu⟩
theorem Links.nil (w : World) (p : Option Addr) : Links w p [] := fun h => absurd rfl h
theorem Links.take {w : World} {p : Option Addr} {ls : List Lk} (h : Links w p ls) (n : Nat) : Links w p (ls.take n) := fun hne => by
  have hne' : ls ≠ [] := fun e => hne (by rw [e]; simp)
  obtain ⟨b, o, e, hi⟩ := h hne'
  refine ⟨b, o, e, fun i hlt => ?_⟩
  have : i < ls.length := by simp at hlt; omega
  rw [List.getElem_take]
  exact hi i this
theorem Links.drop {w : World} {b o : Nat} {ls : List Lk} (h : Links w (some ⟨b, o, none⟩) ls) (n : Nat) : Links w (some ⟨b, o + n * 35, none⟩) (ls.drop n) := fun hne => by
  have hne' : ls ≠ [] := fun e => hne (by rw [e]; simp)
  obtain ⟨b', o', e, hi⟩ := h hne'
  injection e with e
  injection e with e1 e2
  subst e1 e2
  refine ⟨b, o + n * 35, rfl, fun i hlt => ?_⟩
  have : n + i < ls.length := by simp at hlt; omega
  have h2 := hi (n + i) this
  rw [List.getElem_drop]
  rw [show o + n * 35 + i * 35 = o + (n + i) * 35 by omega]
  exact h2

/-- links that the laws speak of -/
def Few (ls : List Lk) : Prop := ls.length ≤ 100 ∧ ∀ x ∈ ls, x.ok
theorem Few.take {ls : List Lk} (h : Few ls) (n : Nat) : Few (ls.take n) := ⟨by have := h.1; simp; omega, fun x hx => h.2 x (List.mem_of_mem_take hx)⟩
theorem Few.drop {ls : List Lk} (h : Few ls) (n : Nat) : Few (ls.drop n) := ⟨by have := h.1; simp; omega, fun x hx => h.2 x (List.mem_of_mem_drop hx)⟩

def Tabs (w : World) : Prop := Tab0 w ∧ Tab w
theorem Tabs.up {w w' : World} (h : Tabs w) (hu : Up w w') : Tabs w' := ⟨h.1.kept (hu.block _ h.1.lt), h.2.kept (hu.block _ h.2.lt)⟩

theorem ownV_of_row {w : World} {b : Nat} {els : List El} {v : Value} {k : Nat} (hk : k = els.length) (hl : k ≤ 65536) (hv : v = .slice (some ⟨b, 0, none⟩) k k) (h : w.heap[b]? = some (.cells (rowV els).toArray 52 (0, 0))) : OwnV w b v els := by
  subst hk hv
  refine ⟨rowV_len els, .inr ⟨b, els.length, _, rfl, Nat.le_refl _, h, Nat.le_refl _, by unfold maxLen; omega, by simp [rowV_len], ?_⟩⟩
  rw [List.take_of_length_le (by simp [rowV_len])]

/-! ### heads, plain -/
def bsOf (l : List UInt8) : ByteArray := ⟨l.toArray⟩
theorem bsOf_list (l : List UInt8) : (bsOf l).data.toList = l := rfl
theorem bsOf_size (l : List UInt8) : (bsOf l).size = l.length := rfl
def bNone : ByteArray := ⟨#[110, 111, 110, 101]⟩
def bLink : ByteArray := ⟨#[108, 105, 110, 107]⟩
def lkIts (x : Lk) : List Enc.It := [.inl x.node, .inl x.no, .inr (bsOf x.prev), .inr (bsOf x.data)]
def lkText (x : Lk) : List UInt8 := encIts (lkIts x)
/-- the text of which the head is the digest -/
def txt (ls : List Lk) : ByteArray × List UInt8 := match ls.getLast? with
  | none => (bNone, [])
  | some x => (bLink, lkText x)
def hd (ls : List Lk) : List UInt8 := Sha.tagged (txt ls).1.data.toList (txt ls).2
theorem hd_len (ls : List Lk) : (hd ls).length = 32 := Sha.sum_length _

theorem lkText_len {x : Lk} (hx : x.ok) : (lkText x).length ≤ 2000 := by
  have h1 := Enc.encI_length x.node
  have h2 := Enc.encI_length x.no
  have h3 := Enc.encT_length x.prev
  have h4 := Enc.encT_length x.data
  have h5 := hx.prev
  have h6 := hx.data
  simp only [lkText, lkIts, encIts, Enc.encL, List.map_cons, List.map_nil, Enc.encIt, List.flatten_cons, List.flatten_nil, List.length_cons, List.length_append, List.length_nil, bsOf_list]
  have h7 := Enc.num_length (0 + 1 + 1 + 1 + 1)
  omega
theorem lkIts_ok {x : Lk} (hx : x.ok) : ∀ i ∈ lkIts x, i.ok := by
  intro i hi
  simp only [lkIts, List.mem_cons, List.not_mem_nil, or_false] at hi
  have h5 := hx.prev
  have h6 := hx.data
  rcases hi with rfl | rfl | rfl | rfl
  · exact hx.node
  · exact hx.no
  · show x.prev.length ≤ 1048576; omega
  · show x.data.length ≤ 1048576; omega

theorem rangeAt_row {w : World} {b : Nat} {D : Array Value} {t : TypeId} {fr : Nat × Nat} (h : w.heap[b]? = some (.cells D t fr)) : w.rangeAt b 0 D.toList := fun j v hv => by
  rw [cell_of_row w b (0 + j) _ _ _ h, Nat.zero_add, ← Array.getElem?_toList]; exact hv
theorem rangeAt_part {w : World} {b : Nat} {D : Array Value} {t : TypeId} {fr : Nat × Nat} (h : w.heap[b]? = some (.cells D t fr)) (o : Nat) (E : Array Value) (hE : ∀ j, j < E.size → D[o + j]? = E[j]?) : w.rangeAt b o E.toList := fun j v hv => by
  have hj : j < E.size := by have := (List.getElem?_eq_some_iff.1 hv).1; simpa using this
  rw [cell_of_row w b (o + j) _ _ _ h, hE j hj, ← Array.getElem?_toList]; exact hv

theorem setRow_named {W2 W3 : World} {g : Nat} {D old : Array Value} {t : TypeId} {fr : Nat × Nat} (h : W3 = W2.setRow g D) (hg : W2.heap[g]? = some (.cells old t fr)) : W3.heap[g]? = some (.cells D t fr) := by subst h; exact setRow_heap _ _ _ _ _ _ hg
theorem setRow_upN {W W2 W3 : World} {g : Nat} {D : Array Value} (h : W3 = W2.setRow g D) (hu : Up W W2) (hg : W.heap.size ≤ g) : Up W W3 := by subst h; exact below_setRow hu hg _

theorem Up.chg {A B : World} (h : Up A B) (S : Nat → Prop) : Chg S A B := ⟨h.os, h.tape, h.output, h.size, fun k hk _ => h.block k hk⟩

/-! ### laws for blocks of links and digests -/
section
variable {P : Program} {ops : Array Oper} {rest : List Oper} {Q : Exit → Act → World → Prop} {a : Act} {w : World}
/-- a block of this type is made -/
def Allocs (P : Program) (ty : TypeId) (n : Nat) : Prop := ∀ w : World, ∃ Z : Array Value, Z.size = n ∧ (Instr.alloc ty true (.tuple #[])).run P w = .ok (.pointer (some ⟨w.heap.size, 0, none⟩)) (w.alloc (.cells Z ty (0, 0)))
/-- a whole row is loaded from the midst of a block -/
theorem wpList_load_arr {o : Oper} (hgd : o.guard = none) (ty : TypeId) (x : Operand) (ho : o.op = .load ty x)
    (b off : Nat) (hx : a.eval x = .pointer (some ⟨b, off, none⟩)) (D : Array Value) (d : TypeDesc) (hc : w.rangeAt b off D.toList)
    (hu : P.underlying ty = some d) (hd : d.isRow = true) (hi : (P.info? ty).map (·.size) = some D.size)
    (h : wpList P ops Q rest (a.put o.dst (.agg D)) w) : wpList P ops Q (o :: rest) a w :=
  wpList_load_mid hgd ty x ho b off hx D.toList d hc hu hd (by rw [hi, Array.length_toList]) (by rw [Array.toArray_toList]; exact h)
theorem run_load_arr {ty : TypeId} {b off : Nat} {D : Array Value} {d : TypeDesc} (hc : w.rangeAt b off D.toList) (hu : P.underlying ty = some d) (hd : d.isRow = true) (hi : (P.info? ty).map (·.size) = some D.size) :
    (Instr.loadAt ty (.pointer (some ⟨b, off, none⟩))).run P w = .ok (.agg D) w := by
  have := run_loadAt_mid (P := P) w b off ty D.toList d hc hu hd (by rw [hi, Array.length_toList])
  rw [Array.toArray_toList] at this
  exact this
theorem wp_allocG {o : Oper} {K : Act → World → Prop} (ty : TypeId) (n : Nat) (hA : Allocs P ty n) (ho : o.op = .alloc ty)
    (h : ∀ W, Up w W → W.heap.size = w.heap.size + 1 → (∃ Z : Array Value, Z.size = n ∧ W.heap[w.heap.size]? = some (.cells Z ty (0, 0))) → K (a.put o.dst (.pointer (some ⟨w.heap.size, 0, none⟩))) W) : o.wp P a w K Q := by
  obtain ⟨Z, hZ, hr⟩ := hA w
  unfold Oper.wp execOp
  simp only [ho, Sem.run_bind, hr, Result.andThen_ok, Sem.run_pure]
  exact h _ ((Up.refl w).alloc _) (by simp) ⟨Z, hZ, heap_new rfl⟩
theorem wpList_allocG {o : Oper} (hgd : o.guard = none) (ty : TypeId) (n : Nat) (hA : Allocs P ty n) (ho : o.op = .alloc ty)
    (h : ∀ W, Up w W → W.heap.size = w.heap.size + 1 → (∃ Z : Array Value, Z.size = n ∧ W.heap[w.heap.size]? = some (.cells Z ty (0, 0))) → wpList P ops Q rest (a.put o.dst (.pointer (some ⟨w.heap.size, 0, none⟩))) W) : wpList P ops Q (o :: rest) a w :=
  wpList_plain hgd fun _ hK => wp_allocG ty n hA ho fun W h1 h2 h3 => hK _ _ (h W h1 h2 h3)

/-- in a quiet region: a whole row is loaded -/
theorem wpQuiet_load_arr {C : World → Prop} {Q : Act → Prop} {o : Oper} (hw : Region.wanted o (yielded ops a.tmps) = true) (ty : TypeId) (x : Operand) (ho : o.op = .load ty x)
    (b off : Nat) (hx : a.eval x = .pointer (some ⟨b, off, none⟩)) (D : Array Value) (d : TypeDesc) (hc : ∀ w, C w → w.rangeAt b off D.toList)
    (hu : P.underlying ty = some d) (hd : d.isRow = true) (hi : (P.info? ty).map (·.size) = some D.size)
    (h : wpQuiet P ops C Q rest (a.put o.dst (.agg D))) : wpQuiet P ops C Q (o :: rest) a := by
  unfold wpQuiet
  rw [if_pos hw]
  refine ⟨.agg D, fun w hw' => ?_, h⟩
  have hr := run_load_arr (P := P) (w := w) (hc w hw') hu hd hi
  unfold Oper.quietAt execOp
  simp only [ho, hx, Sem.run_bind, hr, Result.andThen_ok, Sem.run_pure]
  exact ⟨rfl, rfl⟩

theorem wpStillC_load_arr {C : World → Prop} {Q : Act → Prop} {o : Oper} (hw : Region.wanted o (yielded ops a.tmps) = true) (ty : TypeId) (x : Operand) (ho : o.op = .load ty x)
    (b off : Nat) (hx : a.eval x = .pointer (some ⟨b, off, none⟩)) (D : Array Value) (d : TypeDesc) (hc : ∀ w, C w → w.rangeAt b off D.toList)
    (hu : P.underlying ty = some d) (hd : d.isRow = true) (hi : (P.info? ty).map (·.size) = some D.size)
    (h : wpStillC P ops C Q rest (a.put o.dst (.agg D))) : wpStillC P ops C Q (o :: rest) a := by
  unfold wpStillC
  rw [if_pos hw]
  refine ⟨.agg D, fun w hw' => ?_, h⟩
  have hr := run_load_arr (P := P) (w := w) (hc w hw') hu hd hi
  unfold Oper.quietAt execOp
  simp only [ho, hx, Sem.run_bind, hr, Result.andThen_ok, Sem.run_pure]
  exact ⟨rfl, rfl⟩

/-! the same inside a fence -/
variable {F : Fence} {n : Nat}
theorem wpListIn_load_arr (hF : WideF F) {o : Oper} (hgd : o.guard = none) (ty : TypeId) (x : Operand) (ho : o.op = .load ty x)
    (b off : Nat) (hx : a.eval x = .pointer (some ⟨b, off, none⟩)) (D : Array Value) (d : TypeDesc) (hc : w.rangeAt b off D.toList)
    (hu : P.underlying ty = some d) (hd : d.isRow = true) (hi : (P.info? ty).map (·.size) = some D.size)
    (h : wpListIn F n P ops Q rest (a.put o.dst (.agg D)) w) : wpListIn F n P ops Q (o :: rest) a w :=
  wpListIn_of_wp hF hgd (fun c e => by rw [ho] at e; cases e) fun K hK => wp_load_mid ty x ho b off hx D.toList d hc hu hd (by rw [hi, Array.length_toList]) (by rw [Array.toArray_toList]; exact hK _ _ h)
theorem wpListIn_allocG (hF : WideF F) {o : Oper} (hgd : o.guard = none) (ty : TypeId) (m : Nat) (hA : Allocs P ty m) (ho : o.op = .alloc ty)
    (h : ∀ W, Up w W → W.heap.size = w.heap.size + 1 → (∃ Z : Array Value, Z.size = m ∧ W.heap[w.heap.size]? = some (.cells Z ty (0, 0))) → wpListIn F n P ops Q rest (a.put o.dst (.pointer (some ⟨w.heap.size, 0, none⟩))) W) : wpListIn F n P ops Q (o :: rest) a w :=
  wpListIn_of_wp hF hgd (fun c e => by rw [ho] at e; cases e) fun K hK => wp_allocG ty m hA ho fun W h1 h2 h3 => hK _ _ (h W h1 h2 h3)
theorem wpListIn_store_row (hF : WideF F) {o : Oper} (hgd : o.guard = none) (ty : TypeId) (x y : Operand) (ho : o.op = .store ty x y)
    (g : Nat) (cells : Array Value) (hx : a.eval x = .pointer (some ⟨g, 0, none⟩)) (hy : a.eval y = .agg cells)
    (t : TypeId) (old : Array Value) (hg : w.heap[g]? = some (.cells old t (0, 0))) (hi : (P.info? ty).map (·.size) = some cells.size)
    (hold : old.size = cells.size) (h1 : cells.all (·.oneCell') = true)
    (h : wpListIn F n P ops Q rest (a.put o.dst undef) (w.setRow g cells)) : wpListIn F n P ops Q (o :: rest) a w :=
  wpListIn_of_wp hF hgd (fun c e => by rw [ho] at e; cases e) fun K hK => wp_store_row ty x y ho g cells hx hy t old hg hi hold h1 (hK _ _ h)
theorem wpIn_named {c : Code} {w0 : World} (h : ∀ W, W = w0 → c.wpIn F n P Q a W) : c.wpIn F n P Q a w0 := h _ rfl
theorem wpListIn_named {l : List Oper} {w0 : World} (h : ∀ W, W = w0 → wpListIn F n P ops Q l a W) : wpListIn F n P ops Q l a w0 := h _ rfl
end
theorem allocsLink : Allocs Tryd.prog 37 35 := fun w =>
  ⟨(((Tryd.prog.info? 37).bind (·.zero)).getD undef).cells, by kernel_rfl, by kernel_rfl⟩
theorem allocsDigest : Allocs Tryd.prog 35 32 := fun w =>
  ⟨(((Tryd.prog.info? 35).bind (·.zero)).getD undef).cells, by kernel_rfl, by kernel_rfl⟩

end Go.Proofs.YtpafambdccejnaaDoor

namespace Go.Proofs.YtpafambdccejnaaDoor
open Go.RowKit
set_option linter.unusedVariables false

theorem run_bytes_string (w : World) (p : Option Addr) (c : Nat) (s : ByteArray) (h : SB w p s.data.toList) :
    (convert 23 9 (.slice p s.size c)).run Tryd.prog w = .ok (.string s) w := by
  have hsl : s.data.toList.length = s.size := by rw [Array.length_toList]; rfl
  cases p with
  | none =>
    have hn : s.data.toList = [] := by
      rcases Classical.em (s.data.toList = []) with h1 | h1
      · exact h1
      · obtain ⟨b, o, e, _⟩ := h h1; cases e
    have h0 : s.size = 0 := by rw [← hsl, hn]; rfl
    have hs : s = ⟨#[]⟩ := by
      cases s with | mk d => congr 1; exact Array.toList_inj.1 (by simpa using hn)
    rw [h0, hs]
    exact Lib.run_convert_nil_bytes w _ _ 5 c rfl rfl rfl
  | some a =>
    have := run_convert_bytes_back (P := Tryd.prog) w 23 9 5 a c s.data.toList rfl rfl rfl (fun j hj => by
      obtain ⟨b, o, e, hB⟩ := h (fun e => by rw [e] at hj; simp at hj)
      injection e with e
      subst e
      have := hB j hj
      have e2 : (Addr.add ⟨b, o, none⟩ j) = ⟨b, o + j, none⟩ := by simp [Addr.add]
      rw [e2]; exact this)
    rw [hsl] at this
    simpa using this

theorem run_text_of (w : World) (p : Option Addr) (c : Nat) (l : List UInt8) (h : SB w p l) :
    (convert 23 9 (.slice p l.length c)).run Tryd.prog w = .ok (.string (bsOf l)) w := by
  have := run_bytes_string w p c (bsOf l) h
  exact this

theorem ch_text (p : Option Addr) (n c : Nat) (l : List UInt8) (hn : n = l.length) (w : World) (h : SB w p l) : Calls Tryd.prog 29 #[.slice p n c] w fun e w' => e = .returned (.agg #[.int .i64 2, .int .i64 0, .string (bsOf l), .slice none 0 0]) ∧ Up w w' := by
  subst hn
  have hr := fun W (hu : Up w W) => run_text_of W p c l (h.up hu)
  obtain ⟨s, hs⟩ : ∃ s, s = bsOf l := ⟨_, rfl⟩
  obtain ⟨n, hn⟩ : ∃ n, n = l.length := ⟨_, rfl⟩
  rw [← hs, ← hn] at hr
  rw [← hs, ← hn]
  have hr1 := hr (w.alloc (.cells #[.int .i64 0, .int .i64 0, .string ⟨#[]⟩, .slice none 0 0] 52 (0, 0))) ((Up.refl w).alloc _)
  clear hr h hs hn
  go_enter Tryd.func29, Tryd.ntmps29
  go_wp2
  refine bodyPost_nm ?_
  intro W hW
  have hx : W.heap[w.heap.size]? = some (.cells #[.int .i64 2, .int .i64 0, .string s, .slice none 0 0] 52 (0, 0)) := by rw [hW, heap_new rfl]
  have U : Up w W := by rw [hW]; exact (Up.refl w).alloc _
  have q0 : W.cell? ⟨w.heap.size, 0, none⟩ = some (.int .i64 2) := by rw [cell_of_row W w.heap.size 0 _ _ _ hx]; rfl
  have q1 : W.cell? ⟨w.heap.size, 1, none⟩ = some (.int .i64 0) := by rw [cell_of_row W w.heap.size 1 _ _ _ hx]; rfl
  have q2 : W.cell? ⟨w.heap.size, 2, none⟩ = some (.string s) := by rw [cell_of_row W w.heap.size 2 _ _ _ hx]; rfl
  have q3 : W.cell? ⟨w.heap.size, 3, none⟩ = some (.slice none 0 0) := by rw [cell_of_row W w.heap.size 3 _ _ _ hx]; rfl
  clear hW hr1
  refine bodyPost_ret (v := .agg #[.int .i64 2, .int .i64 0, .string s, .slice none 0 0]) (by simp [results, Tryd.results29, go_sem, q0, q1, q2, q3]) rfl ⟨rfl, U⟩

theorem rch_text (p : Option Addr) (n c : Nat) (l : List UInt8) (hn : n = l.length) (w : World) (h : SB w p l) : Calls Tryd.prog 40 #[.slice p n c] w fun e w' => e = .returned (.agg #[.int .i64 2, .int .i64 0, .string (bsOf l), .slice none 0 0]) ∧ Up w w' := by
  subst hn
  have hr := fun W (hu : Up w W) => run_text_of W p c l (h.up hu)
  obtain ⟨s, hs⟩ : ∃ s, s = bsOf l := ⟨_, rfl⟩
  obtain ⟨n, hn⟩ : ∃ n, n = l.length := ⟨_, rfl⟩
  rw [← hs, ← hn] at hr
  rw [← hs, ← hn]
  have hr1 := hr (w.alloc (.cells #[.int .i64 0, .int .i64 0, .string ⟨#[]⟩, .slice none 0 0] 52 (0, 0))) ((Up.refl w).alloc _)
  clear hr h hs hn
  go_enter Tryd.func40, Tryd.ntmps40
  go_wp2
  refine bodyPost_nm ?_
  intro W hW
  have hx : W.heap[w.heap.size]? = some (.cells #[.int .i64 2, .int .i64 0, .string s, .slice none 0 0] 52 (0, 0)) := by rw [hW, heap_new rfl]
  have U : Up w W := by rw [hW]; exact (Up.refl w).alloc _
  have q0 : W.cell? ⟨w.heap.size, 0, none⟩ = some (.int .i64 2) := by rw [cell_of_row W w.heap.size 0 _ _ _ hx]; rfl
  have q1 : W.cell? ⟨w.heap.size, 1, none⟩ = some (.int .i64 0) := by rw [cell_of_row W w.heap.size 1 _ _ _ hx]; rfl
  have q2 : W.cell? ⟨w.heap.size, 2, none⟩ = some (.string s) := by rw [cell_of_row W w.heap.size 2 _ _ _ hx]; rfl
  have q3 : W.cell? ⟨w.heap.size, 3, none⟩ = some (.slice none 0 0) := by rw [cell_of_row W w.heap.size 3 _ _ _ hx]; rfl
  clear hW hr1
  refine bodyPost_ret (v := .agg #[.int .i64 2, .int .i64 0, .string s, .slice none 0 0]) (by simp [results, Tryd.results40, go_sem, q0, q1, q2, q3]) rfl ⟨rfl, U⟩

end Go.Proofs.YtpafambdccejnaaDoor

namespace Go.Proofs.YtpafambdccejnaaDoor
open Go.RowKit
set_option linter.unusedVariables false

/-- the row of values that Encode gets -/
def lkRow (x : Lk) : Array Value := #[.int .i64 1, .int .i64 x.node, .string ⟨#[]⟩, .slice none 0 0, .int .i64 1, .int .i64 x.no, .string ⟨#[]⟩, .slice none 0 0, .int .i64 2, .int .i64 0, .string (bsOf x.prev), .slice none 0 0, .int .i64 2, .int .i64 0, .string (bsOf x.data), .slice none 0 0]
theorem lkRow_eq (x : Lk) : lkRow x = (rowV ((lkIts x).map elIt)).toArray := rfl

theorem lkFlat {x : Lk} (hx : x.ok) : ((lkIts x).map Enc.encIt).flatten.length ≤ 268435456 := by
  have h := lkText_len hx
  have : ((lkIts x).map Enc.encIt).flatten.length ≤ (lkText x).length := by simp [lkText, encIts, Enc.encL]; omega
  omega

theorem encode_link (x : Lk) (hx : x.ok) (b : Nat) (w : World) (h : w.heap[b]? = some (.cells (lkRow x) 52 (0, 0))) :
    Calls Tryd.prog 26 #[.agg #[.int .i64 3, .int .i64 0, .string ⟨#[]⟩, .slice (some ⟨b, 0, none⟩) 4 4]] w fun e w' => ∃ p c, e = .returned (.tuple #[.slice p (lkText x).length c, .int .i64 0]) ∧ Up w w' ∧ (lkText x).length ≤ c ∧ c ≤ maxLen ∧ SB w' p (lkText x) := by
  refine (encodeIts_calls b _ (lkIts x) w (ownV_of_row (k := 4) rfl (by omega) rfl h) (lkIts_ok hx) (by show 4 ≤ 65536; omega) (lkFlat hx)).mono ?_
  rintro e w' ⟨v', rfl, ho, hu⟩
  obtain ⟨p, c, rfl, h1, h2, h3⟩ := ho.form
  exact ⟨p, c, rfl, hu, h1, h2, h3⟩
theorem rencode_link (x : Lk) (hx : x.ok) (b : Nat) (w : World) (h : w.heap[b]? = some (.cells (lkRow x) 52 (0, 0))) :
    Calls Tryd.prog 38 #[.agg #[.int .i64 3, .int .i64 0, .string ⟨#[]⟩, .slice (some ⟨b, 0, none⟩) 4 4]] w fun e w' => ∃ p c, e = .returned (.tuple #[.slice p (lkText x).length c, .int .i64 0]) ∧ Up w w' ∧ (lkText x).length ≤ c ∧ c ≤ maxLen ∧ SB w' p (lkText x) := by
  refine (rc_encodeIts b _ (lkIts x) w (ownV_of_row (k := 4) rfl (by omega) rfl h) (lkIts_ok hx) (by show 4 ≤ 65536; omega) (lkFlat hx)).mono ?_
  rintro e w' ⟨v', rfl, ho, hu⟩
  obtain ⟨p, c, rfl, h1, h2, h3⟩ := ho.form
  exact ⟨p, c, rfl, hu, h1, h2, h3⟩

theorem lk_c0 {x : Lk} {D : Array Value} {p : Option Addr} {c : Nat} (h : D.toList = lkCells x p c) : D[0]? = some (.int .i64 x.node) := by rw [← Array.getElem?_toList, h]; rfl
theorem lk_c1 {x : Lk} {D : Array Value} {p : Option Addr} {c : Nat} (h : D.toList = lkCells x p c) : D[1]? = some (.int .i64 x.no) := by rw [← Array.getElem?_toList, h]; rfl
theorem lk_c2 {x : Lk} {D : Array Value} {p : Option Addr} {c : Nat} (h : D.toList = lkCells x p c) (i : Nat) (hi : i < x.prev.length) : D[2 + i]? = some (.int .u8 (x.prev[i].toNat : Nat)) := by
  rw [← Array.getElem?_toList, h, lkCells, show 2 + i = i + 1 + 1 by omega, List.getElem?_cons_succ, List.getElem?_cons_succ, List.getElem?_append_left (by rw [u8s_length]; exact hi)]
  simp [u8s, hi]
theorem lk_c3 {x : Lk} (hx : x.prev.length = 32) {D : Array Value} {p : Option Addr} {c : Nat} (h : D.toList = lkCells x p c) : D[34]? = some (.slice p x.data.length c) := by
  rw [← Array.getElem?_toList, h, lkCells, List.getElem?_cons_succ, List.getElem?_cons_succ, List.getElem?_append_right (by rw [u8s_length]; omega), u8s_length, hx]; rfl
/-- the bytes of Prev, in the link's own block -/
theorem lk_prev {x : Lk} {D : Array Value} {p : Option Addr} {c : Nat} (h : D.toList = lkCells x p c) {w : World} {b : Nat} {t : TypeId} {fr : Nat × Nat} (hb : w.heap[b]? = some (.cells D t fr)) : SB w (some ⟨b, 2, none⟩) x.prev :=
  fun _ => ⟨b, 2, rfl, fun i hi => by rw [cell_of_row w b (2 + i) _ _ _ hb]; exact lk_c2 h i hi⟩

theorem u8s_arr (l : List UInt8) : (u8s l).toArray.size = l.length := by simp [u8s_length]

set_option maxRecDepth 100000 in
set_option maxHeartbeats 1000000 in
theorem head_nil (p : Option Addr) (c : Nat) (w : World) (htab : Tabs w) :
    Calls Tryd.prog 15 #[.slice p 0 c] w fun e w' => e = .returned (.agg (u8s (hd [])).toArray) ∧ Up w w' := by
  have HT := Lib.hid htab
  have HFD : Hid (hd [] = Sha.tagged bNone.data.toList []) := rfl
  clear htab
  go_enter Tryd.func15, Tryd.ntmps15
  go_wp2_with (refine wpList_allocG rfl 35 32 allocsDigest rfl ?_; intro W1 u1 z1 hz1; clear z1)
  obtain ⟨Z, hZ, hb⟩ := hz1
  obtain ⟨bd, hbd⟩ : ∃ b, b = w.heap.size := ⟨_, rfl⟩
  have HBD := Lib.hid hbd
  rw [← hbd] at hb
  rw [← hbd]
  have U1 := Lib.hid u1
  have HB := Lib.hid hb
  have HZ := Lib.hid hZ
  clear u1 hb hZ hbd
  refine (tagged_calls bNone none 0 [] _ (by decide) (by simp) (by simp) (by unfold maxLen; omega) (fun h => absurd rfl h) (HT.out.up U1.out).1 (HT.out.up U1.out).2).mono ?_
  rintro e w2 ⟨rfl, u2⟩
  rw [← HFD.out]
  have hl := hd_len []
  obtain ⟨D, hD⟩ : ∃ D, D = (u8s (hd [])).toArray := ⟨_, rfl⟩
  rw [← hD]
  have HD := Lib.hid hD
  have hDs : D.size = 32 := by rw [hD, u8s_arr, hl]
  have hDc : D.all (·.oneCell') = true := by rw [hD]; exact u8s_all _
  have HDs := Lib.hid hDs
  have HDc := Lib.hid hDc
  have U2 := Lib.hid u2
  have hb2 := (u2.block bd (lt_of_block HB.out)).trans HB.out
  have HB2 := Lib.hid hb2
  clear hD hDs hDc u2 hb2 hl
  go_wp2_with (refine wpList_store_row rfl 35 (.tmp 2) (.tmp 9) rfl bd D rfl rfl 35 _ HB2.out (by rw [HDs.out]; rfl) (by rw [HZ.out, HDs.out]) HDc.out ?_)
  refine bodyPost_ret (results_cell_row rfl _ _ bd _ D (0, 0) _ rfl (setRow_heap _ _ _ _ _ _ HB2.out) rfl rfl (by rw [HDs.out]; rfl)) rfl ⟨by rw [HD.out], ?_⟩
  rw [HBD.out]
  exact below_setRow (Up.trans U1.out U2.out) (Nat.le_refl _) _

set_option maxRecDepth 100000 in
set_option maxHeartbeats 1000000 in
theorem head_last (b o n c : Nat) (x : Lk) (w : World) (h1 : 1 ≤ n) (hn : n ≤ 100) (hx : x.ok) (ha : LkAt w b (o + (n - 1) * 35) x) (htab : Tabs w) :
    Calls Tryd.prog 15 #[.slice (some ⟨b, o, none⟩) n c] w fun e w' => e = .returned (.agg (u8s (Sha.tagged bLink.data.toList (lkText x))).toArray) ∧ Up w w' := by
  have HT := Lib.hid htab
  obtain ⟨cs, hv, hr⟩ := ha
  obtain ⟨p, cd, hcs, hd1, hd2, hd3⟩ := hv
  obtain ⟨D, hD⟩ : ∃ D, D = cs.toArray := ⟨_, rfl⟩
  have hDl : D.toList = cs := by rw [hD]
  have hDs : D.size = 35 := by rw [hD, List.size_toArray, hcs, lkCells_len hx.prev]
  have hDc : D.all (·.oneCell') = true := by rw [hD, hcs]; exact all_oneCell_toArray (lkCells_one x p cd)
  rw [← hDl] at hr hcs
  have HR := Lib.hid hr
  have HDs := Lib.hid hDs
  have HDc := Lib.hid hDc
  have HCS := Lib.hid hcs
  have HSB := Lib.hid hd3
  clear htab hr hcs hd3 hD hDl hDs hDc
  go_enter Tryd.func15, Tryd.ntmps15
  go_wp2_with (first | (refine wpList_allocG rfl 35 32 allocsDigest rfl ?_; intro W1 u1 z1 hz1; have U1 := Lib.hid u1; have HZ1 := Lib.hid hz1; clear u1 z1 hz1) | (refine wpList_load_arr rfl 37 (.tmp 14) rfl b (o + (n - 1) * 35) rfl D _ (rangeAt_up HR.out U1.out) rfl rfl (by rw [HDs.out]; rfl) ?_) | (refine wpList_allocG rfl 37 35 allocsLink rfl ?_; intro W2 u2 z2 hz2; obtain ⟨Z2, hZ2, hb2⟩ := hz2; have U2 := Lib.hid u2; have HZ2 := Lib.hid hZ2; have HB2 := Lib.hid hb2; clear u2 z2 hZ2 hb2) | (refine wpList_store_row rfl 37 (.tmp 3) (.tmp 15) rfl _ D rfl rfl 37 _ HB2.out (by rw [HDs.out]; rfl) (by rw [HZ2.out, HDs.out]) HDc.out ?_))
  obtain ⟨bd, hbd⟩ : ∃ b, b = w.heap.size := ⟨_, rfl⟩
  obtain ⟨bx, hbx⟩ : ∃ b, b = W1.heap.size := ⟨_, rfl⟩
  obtain ⟨Z1, hZ1, hb1⟩ := HZ1.out
  have HBD := Lib.hid hbd
  rw [← hbd] at hb1
  have HB2' := HB2.out
  rw [← hbx] at HB2'
  rw [← hbd, ← hbx]
  clear HZ1
  refine wp_named ?_
  intro W3 hW3
  have u3 : Up W1 W3 := by rw [hW3, hbx]; exact below_setRow U2.out (Nat.le_refl _) _
  have x3 : W3.heap[bx]? = some (.cells D 37 (0, 0)) := by rw [hW3]; exact setRow_heap _ _ _ _ _ _ HB2'
  have U3 : Hid (Up w W3) := Up.trans U1.out u3
  have X3 := Lib.hid x3
  have B3 : Hid (W3.heap[bd]? = some (.cells Z1 35 (0, 0))) := (u3.block bd (lt_of_block hb1)).trans hb1
  have HZ1 := Lib.hid hZ1
  have HSB3 : Hid (SB W3 p x.data) := HSB.out.up U3.out
  have NU := Lib.hid ch_number
  have ENC := Lib.hid fun w b h => encode_link x hx b w h
  have TG := Lib.hid fun w p c h1 h2 h3 (ht : Tabs w) => tagged_calls bLink p c (lkText x) w (by decide) (lkText_len hx) h1 h2 h3 ht.1 ht.2
  have TX := Lib.hid ch_text
  have LI := Lib.hid ch_list
  have hdl := hx.data
  obtain ⟨dl, hdle⟩ : ∃ k, k = x.data.length := ⟨_, rfl⟩
  have HDL := Lib.hid hdle
  clear hW3 u3 x3 hb1 HB2' HB2 hbx hbd hZ1 hdle
  refine wp_region_mixT_at [0, 1, 3, 4, 6, 7, 9, 10] [2, 5, 8, 11, 12, 13, 14, 15] [16, 17, 18, 19] (by kernel_rfl) (by kernel_rfl) (fun _ _ d _ _ h => by cases d <;> exact h) ?_
  intro W U hW
  refine ⟨fun W' => Up W W', Up.refl _, ?_⟩
  have hX : ∀ y : InC (fun W' => Up W W'), y.w.heap[bx]? = some (.cells D 37 (0, 0)) := fun y => ((y.h.block bx (by rw [hW]; exact lt_of_block X3.out)).trans (by rw [hW])).trans X3.out
  have k0 : ∀ y : InC (fun W' => Up W W'), y.w.cell? ⟨bx, 0, none⟩ = some (.int .i64 x.node) := fun y => by rw [cell_of_row y.w bx 0 _ _ _ (hX y)]; exact lk_c0 HCS.out
  have k1 : ∀ y : InC (fun W' => Up W W'), y.w.cell? ⟨bx, 1, none⟩ = some (.int .i64 x.no) := fun y => by rw [cell_of_row y.w bx 1 _ _ _ (hX y)]; exact lk_c1 HCS.out
  have k3 : ∀ y : InC (fun W' => Up W W'), y.w.cell? ⟨bx, 34, none⟩ = some (.slice p dl cd) := fun y => by rw [cell_of_row y.w bx 34 _ _ _ (hX y), HDL.out]; exact lk_c3 hx.prev HCS.out
  have HXX := Lib.hid hX
  have HU := Lib.hid U
  haveI : Nonempty (InC (fun W' => Up W W')) := ⟨⟨W, Up.refl _⟩⟩
  clear U hW hX
  simp only [pick, List.getElem?_cons_zero, List.getElem?_cons_succ]
  repeat (refine wpStillC_step (fun K hK => ?_); go_simp; refine hK _ ?_; clear hK K)
  refine wpStillC_nil ?_
  clear k0 k1 k3
  refine wpChainT_step (fun K hK => ?_)
  go_simp
  refine (NU.out _ _).mono ?_
  rintro e w1 ⟨rfl, u1⟩
  refine hK _ _ (inC u1) ?_
  clear hK K
  refine wpChainT_step (fun K hK => ?_)
  go_simp
  refine (NU.out _ _).mono ?_
  rintro e w2 ⟨rfl, u2⟩
  have u2 : Up W w2 := Up.trans u1 u2
  refine hK _ _ (inC u2) ?_
  clear hK K u1
  refine wpChainT_step (fun K hK => ?_)
  go_simp
  refine (TX.out _ _ _ x.prev hx.prev.symm w2 (lk_prev HCS.out (HXX.out ⟨_, u2⟩))).mono ?_
  rintro e w3 ⟨rfl, u3⟩
  have u3 : Up W w3 := Up.trans u2 u3
  refine hK _ _ (inC u3) ?_
  clear hK K u2
  refine wpChainT_step (fun K hK => ?_)
  go_simp
  refine (TX.out _ _ _ x.data HDL.out w3 (HSB3.out.up (Up.trans HU.out u3))).mono ?_
  rintro e w4 ⟨rfl, u4⟩
  have u4 : Up W w4 := Up.trans u3 u4
  refine hK _ _ (inC u4) ?_
  clear hK K u3
  refine wpChainT_step (fun K hK => ?_)
  go_simp
  refine hK _ _ (inC (u4.alloc _)) ?_
  clear hK K
  refine wpChainT_nm ?_
  intro W4 hW4
  obtain ⟨br, hbr⟩ : ∃ b, b = w4.heap.size := ⟨_, rfl⟩
  rw [← hbr]
  have u5 : Up W W4 := by rw [hW4]; exact u4.alloc _
  have X4 : Hid (W4.heap[br]? = some (.cells (lkRow x) 52 (0, 0))) := by show _ = _; rw [hW4, heap_new hbr]; rfl
  clear hW4 hbr u4
  refine wpChainT_step (fun K hK => ?_)
  go_simp
  refine (LI.out _ _ _ _).mono ?_
  rintro e w6 ⟨rfl, u6⟩
  have hc6 := ENC.out w6 br ((u6.block br (lt_of_block X4.out)).trans X4.out)
  have u6 : Up W w6 := Up.trans u5 u6
  refine hK _ _ (inC u6) ?_
  clear hK K u5 X4
  refine wpChainT_step (fun K hK => ?_)
  go_simp
  refine hc6.mono ?_
  rintro e w7 ⟨p7, c7, rfl, u7, g1, g2, g3⟩
  obtain ⟨m7, hm7⟩ : ∃ m, m = (lkText x).length := ⟨_, rfl⟩
  rw [← hm7]
  have u7 : Up W w7 := Up.trans u6 u7
  have HG1 := Lib.hid g1
  have HG2 := Lib.hid g2
  have HG3 := Lib.hid g3
  have HM7 := Lib.hid hm7
  have HU7 : Hid (Up w w7) := Up.trans U3.out (Up.trans HU.out u7)
  have B7 := ((Up.trans HU.out u7).block bd (lt_of_block B3.out)).trans B3.out
  have HB7 := Lib.hid B7
  refine hK _ _ (inC u7) ?_
  clear hK K hc6 g1 g2 g3 hm7 B7 u6
  refine wpChainT_step (fun K hK => ?_)
  go_simp
  refine hK _ _ (inC u7) ?_
  clear hK K
  refine wpChainT_nil ⟨inC u7, ?_⟩
  repeat (refine wpStillC_step (fun K hK => ?_); go_simp; refine hK _ ?_; clear hK K)
  refine wpStillC_nil ?_
  clear u7
  go_wp2_with fail
  have HTG := TG.out w7 p7 c7 HG1.out HG2.out HG3.out (HT.out.up HU7.out)
  rw [← HM7.out] at HTG
  refine HTG.mono ?_
  rintro e w8 ⟨rfl, u8⟩
  clear HTG
  obtain ⟨D2, hD2⟩ : ∃ D2, D2 = (u8s (Sha.tagged bLink.data.toList (lkText x))).toArray := ⟨_, rfl⟩
  rw [← hD2]
  have hD2s : D2.size = 32 := by rw [hD2, u8s_arr]; exact Sha.sum_length _
  have hD2c : D2.all (·.oneCell') = true := by rw [hD2]; exact u8s_all _
  have HD2 := Lib.hid hD2
  have HD2s := Lib.hid hD2s
  have HD2c := Lib.hid hD2c
  have U8 : Hid (Up w w8) := Up.trans HU7.out u8
  have B8 : Hid (w8.heap[bd]? = some (.cells Z1 35 (0, 0))) := (u8.block bd (lt_of_block HB7.out)).trans HB7.out
  clear hD2 hD2s hD2c u8
  go_wp2_with (refine wpList_store_row rfl 35 (.tmp 2) (.tmp 35) rfl bd D2 rfl rfl 35 _ B8.out (by rw [HD2s.out]; rfl) (by rw [HZ1.out, HD2s.out]) HD2c.out ?_)
  refine bodyPost_ret (results_cell_row rfl _ _ bd _ D2 (0, 0) _ rfl (setRow_heap _ _ _ _ _ _ B8.out) rfl rfl (by rw [HD2s.out]; rfl)) rfl ⟨by rw [HD2.out], ?_⟩
  rw [HBD.out]
  exact below_setRow U8.out (Nat.le_refl _) _

theorem head_calls (p : Option Addr) (n c : Nat) (ls : List Lk) (w : World) (hn : n = ls.length) (hf : Few ls) (h : Links w p ls) (htab : Tabs w) :
    Calls Tryd.prog 15 #[.slice p n c] w fun e w' => e = .returned (.agg (u8s (hd ls)).toArray) ∧ Up w w' := by
  subst hn
  by_cases hne : ls = []
  · subst hne; exact head_nil p c w htab
  · obtain ⟨b, o, rfl, hi⟩ := h hne
    have hl : 0 < ls.length := List.length_pos_iff.2 hne
    have hlast := List.getLast?_eq_some_getLast hne
    have e : hd ls = Sha.tagged bLink.data.toList (lkText (ls.getLast hne)) := by unfold hd txt; rw [hlast]
    rw [e]
    refine head_last b o _ c _ w hl hf.1 (hf.2 _ (List.getLast_mem hne)) ?_ htab
    have := hi (ls.length - 1) (by omega)
    rw [List.getLast_eq_getElem]
    exact this

end Go.Proofs.YtpafambdccejnaaDoor

namespace Go.Proofs.YtpafambdccejnaaDoor
open Go.RowKit
set_option linter.unusedVariables false

theorem rtext_nil (p : Option Addr) (c : Nat) (w : World) :
    Calls Tryd.prog 31 #[.slice p 0 c] w fun e w' => e = .returned (.tuple #[.string bNone, .slice none 0 0]) ∧ Up w w' := by
  go_enter Tryd.func31, Tryd.ntmps31
  go_wp2
  go_ret2
  exact ⟨rfl, Up.refl w⟩

set_option maxRecDepth 100000 in
set_option maxHeartbeats 1000000 in
theorem rtext_last (b o n c : Nat) (x : Lk) (w : World) (h1 : 1 ≤ n) (hn : n ≤ 100) (hx : x.ok) (ha : LkAt w b (o + (n - 1) * 35) x) :
    Calls Tryd.prog 31 #[.slice (some ⟨b, o, none⟩) n c] w fun e w' => ∃ p m c, e = .returned (.tuple #[.string bLink, .slice p m c]) ∧ m = (lkText x).length ∧ Up w w' ∧ m ≤ c ∧ c ≤ maxLen ∧ SB w' p (lkText x) := by
  have HA := Lib.hid ha
  obtain ⟨cs, hv, hr⟩ := ha
  obtain ⟨p, cd, hcs, hd1, hd2, hd3⟩ := hv
  obtain ⟨D, hD⟩ : ∃ D, D = cs.toArray := ⟨_, rfl⟩
  have hDl : D.toList = cs := by rw [hD]
  have hDs : D.size = 35 := by rw [hD, List.size_toArray, hcs, lkCells_len hx.prev]
  have hDc : D.all (·.oneCell') = true := by rw [hD, hcs]; exact all_oneCell_toArray (lkCells_one x p cd)
  rw [← hDl] at hr hcs
  have HR := Lib.hid hr
  have HDs := Lib.hid hDs
  have HDc := Lib.hid hDc
  have HCS := Lib.hid hcs
  have HSB := Lib.hid hd3
  clear hr hcs hd3 hD hDl hDs hDc
  go_enter Tryd.func31, Tryd.ntmps31
  go_wp2_with (first | (refine wpList_load_arr rfl 37 (.tmp 16) rfl b (o + (n - 1) * 35) rfl D _ HR.out rfl rfl (by rw [HDs.out]; rfl) ?_) | (refine wpList_allocG rfl 37 35 allocsLink rfl ?_; intro W2 u2 z2 hz2; obtain ⟨Z2, hZ2, hb2⟩ := hz2; have U2 := Lib.hid u2; have HZ2 := Lib.hid hZ2; have HB2 := Lib.hid hb2; clear u2 z2 hZ2 hb2) | (refine wpList_store_row rfl 37 (.tmp 4) (.tmp 17) rfl _ D rfl rfl 37 _ HB2.out (by rw [HDs.out]; rfl) (by rw [HZ2.out, HDs.out]) HDc.out ?_))
  obtain ⟨bx, hbx⟩ : ∃ b, b = w.heap.size := ⟨_, rfl⟩
  have HB2' := HB2.out
  rw [← hbx] at HB2'
  rw [← hbx]
  refine wp_named ?_
  intro W3 hW3
  have u3 : Up w W3 := by rw [hW3, hbx]; exact below_setRow U2.out (Nat.le_refl _) _
  have x3 : W3.heap[bx]? = some (.cells D 37 (0, 0)) := by rw [hW3]; exact setRow_heap _ _ _ _ _ _ HB2'
  have U3 := Lib.hid u3
  have X3 := Lib.hid x3
  clear hW3 u3 x3 HB2' HB2 hbx
  go_loopw [5, 6] (fun v5 v6 wq => ∃ k : Nat, k ≤ 32 ∧ v6 = .int .i64 k ∧ Hid (Own wq W3.heap.size v5 (x.prev.take k)) ∧ Hid (Up W3 wq))
    (fun _ v6 _ => 32 - (intOf v6).toNat)
  case atStart => exact ⟨0, by omega, rfl, Own.nil _ _, Up.refl _⟩
  case round =>
    obtain ⟨k, hk, rfl, HO, HU⟩ := hrel
    by_cases hlt : k < 32
    · have hki : k < x.prev.length := by rw [hx.prev]; exact hlt
      have hc : wr.cell? ⟨bx, 2 + k, none⟩ = some (.int .u8 (x.prev[k].toNat : Nat)) := by
        rw [cell_of_row wr bx (2 + k) _ _ _ ((HU.out.block bx (lt_of_block X3.out)).trans X3.out)]
        exact lk_c2 HCS.out k hki
      have hst : x.prev.take (k + 1) = x.prev.take k ++ [UInt8.ofNat (x.prev[k].toNat)] := by
        rw [List.take_succ_eq_append_getElem hki, UInt8.ofNat_toNat]
      have HST := Lib.hid hst
      have hb8 : x.prev[k].toNat < 256 := UInt8.toNat_lt _
      obtain ⟨z, hz⟩ : ∃ z, z = x.prev[k].toNat := ⟨_, rfl⟩
      rw [← hz] at hc HST hb8
      have hll : (x.prev.take k).length ≤ 4294967295 := by have := List.length_take_le k x.prev; omega
      have HLL := Lib.hid hll
      have HSZ := Lib.hid HU.out.size
      clear hst hz hki hll
      go_wp2_with (at_builtin; refine wpList_app1 rfl (.tmp 22) (.tmp 27) rfl rfl W3.heap.size _ (x.prev.take k) _ z rfl rfl rfl hb8 HO.out HLL.out HSZ.out ?_; intro v3 w3 o3 b3 g3; have O3 := Lib.hid o3; have B3 := Lib.hid b3; clear o3 b3 g3)
      exact ⟨⟨k + 1, by omega, by go_num, by rw [HST.out]; exact O3.out, Below.trans HU.out B3.out⟩, by simp [intOf]; omega⟩
    · have hk32 : k = 32 := by omega
      subst hk32
      have hform := HO.out
      rw [List.take_of_length_le (by rw [hx.prev]; omega)] at hform
      obtain ⟨p5, c5, rfl, q1, q2, q3⟩ := hform.form
      rw [hx.prev]
      have HQ3 := Lib.hid q3
      have UU : Hid (Up w wr) := Up.trans U3.out HU.out
      have XX : Hid (wr.heap[bx]? = some (.cells D 37 (0, 0))) := (HU.out.block bx (lt_of_block X3.out)).trans X3.out
      have HSB3 : Hid (SB wr p x.data) := HSB.out.up UU.out
      have NU := Lib.hid rch_number
      have ENC := Lib.hid fun w b h => rencode_link x hx b w h
      have TX := Lib.hid rch_text
      have hdl := hx.data
      obtain ⟨dl, hdle⟩ : ∃ k, k = x.data.length := ⟨_, rfl⟩
      have HDL := Lib.hid hdle
      clear hdle q1 q2 q3 hform HO HU
      go_wp2
      refine wp_region_mixT_at [0, 1, 3, 4, 6, 8, 9] [2, 5, 7, 10, 11, 12, 13, 14] [15, 16, 17, 18] (by kernel_rfl) (by kernel_rfl) (fun _ _ d _ _ h => by cases d <;> exact h) ?_
      intro W U hW
      refine ⟨fun W' => Up W W', Up.refl _, ?_⟩
      have hX : ∀ y : InC (fun W' => Up W W'), y.w.heap[bx]? = some (.cells D 37 (0, 0)) := fun y => ((y.h.block bx (by rw [hW]; exact lt_of_block XX.out)).trans (by rw [hW])).trans XX.out
      have k0 : ∀ y : InC (fun W' => Up W W'), y.w.cell? ⟨bx, 0, none⟩ = some (.int .i64 x.node) := fun y => by rw [cell_of_row y.w bx 0 _ _ _ (hX y)]; exact lk_c0 HCS.out
      have k1 : ∀ y : InC (fun W' => Up W W'), y.w.cell? ⟨bx, 1, none⟩ = some (.int .i64 x.no) := fun y => by rw [cell_of_row y.w bx 1 _ _ _ (hX y)]; exact lk_c1 HCS.out
      have k3 : ∀ y : InC (fun W' => Up W W'), y.w.cell? ⟨bx, 34, none⟩ = some (.slice p dl cd) := fun y => by rw [cell_of_row y.w bx 34 _ _ _ (hX y), HDL.out]; exact lk_c3 hx.prev HCS.out
      have HU := Lib.hid U
      haveI : Nonempty (InC (fun W' => Up W W')) := ⟨⟨W, Up.refl _⟩⟩
      clear U hW hX
      simp only [pick, List.getElem?_cons_zero, List.getElem?_cons_succ]
      repeat (refine wpStillC_step (fun K hK => ?_); go_simp; refine hK _ ?_; clear hK K)
      refine wpStillC_nil ?_
      clear k0 k1 k3
      refine wpChainT_step (fun K hK => ?_)
      go_simp
      refine (NU.out _ _).mono ?_
      rintro e w1 ⟨rfl, u1⟩
      refine hK _ _ (inC u1) ?_
      clear hK K
      refine wpChainT_step (fun K hK => ?_)
      go_simp
      refine (NU.out _ _).mono ?_
      rintro e w2 ⟨rfl, u2⟩
      have u2 : Up W w2 := Up.trans u1 u2
      refine hK _ _ (inC u2) ?_
      clear hK K u1
      refine wpChainT_step (fun K hK => ?_)
      go_simp
      refine (TX.out _ _ _ x.prev hx.prev.symm w2 (HQ3.out.up (Up.trans HU.out u2))).mono ?_
      rintro e w3 ⟨rfl, u3⟩
      have u3 : Up W w3 := Up.trans u2 u3
      refine hK _ _ (inC u3) ?_
      clear hK K u2
      refine wpChainT_step (fun K hK => ?_)
      go_simp
      refine (TX.out _ _ _ x.data HDL.out w3 (HSB3.out.up (Up.trans HU.out u3))).mono ?_
      rintro e w4 ⟨rfl, u4⟩
      have u4 : Up W w4 := Up.trans u3 u4
      refine hK _ _ (inC u4) ?_
      clear hK K u3
      refine wpChainT_step (fun K hK => ?_)
      go_simp
      refine hK _ _ (inC (u4.alloc _)) ?_
      clear hK K
      refine wpChainT_nm ?_
      intro W4 hW4
      obtain ⟨br, hbr⟩ : ∃ b, b = w4.heap.size := ⟨_, rfl⟩
      rw [← hbr]
      have u5 : Up W W4 := by rw [hW4]; exact u4.alloc _
      have X4 : Hid (W4.heap[br]? = some (.cells (lkRow x) 52 (0, 0))) := by show _ = _; rw [hW4, heap_new hbr]; rfl
      clear hW4 hbr u4
      refine wpChainT_step (fun K hK => ?_)
      go_simp
      refine hK _ _ (inC u5) ?_
      clear hK K
      have hc6 := ENC.out W4 br X4.out
      refine wpChainT_step (fun K hK => ?_)
      go_simp
      refine hc6.mono ?_
      rintro e w7 ⟨p7, c7, rfl, u7, g1, g2, g3⟩
      obtain ⟨m7, hm7⟩ : ∃ m, m = (lkText x).length := ⟨_, rfl⟩
      rw [← hm7]
      have u7 : Up W w7 := Up.trans u5 u7
      have HG1 := Lib.hid g1
      have HG2 := Lib.hid g2
      have HG3 := Lib.hid g3
      have HM7 := Lib.hid hm7
      have HU7 : Hid (Up w w7) := Up.trans UU.out (Up.trans HU.out u7)
      refine hK _ _ (inC u7) ?_
      clear hK K hc6 g1 g2 g3 hm7 u5 X4
      refine wpChainT_step (fun K hK => ?_)
      go_simp
      refine hK _ _ (inC u7) ?_
      clear hK K
      refine wpChainT_nil ⟨inC u7, ?_⟩
      repeat (refine wpStillC_step (fun K hK => ?_); go_simp; refine hK _ ?_; clear hK K)
      refine wpStillC_nil ?_
      clear u7
      go_wp2
      go_ret2
      exact ⟨p7, m7, c7, rfl, HM7.out, HU7.out, by rw [HM7.out]; exact HG1.out, HG2.out, HG3.out⟩

theorem rtext_calls (p : Option Addr) (n c : Nat) (ls : List Lk) (w : World) (hn : n = ls.length) (hf : Few ls) (h : Links w p ls) :
    Calls Tryd.prog 31 #[.slice p n c] w fun e w' => ∃ p m c, e = .returned (.tuple #[.string (txt ls).1, .slice p m c]) ∧ m = (txt ls).2.length ∧ Up w w' ∧ m ≤ c ∧ c ≤ maxLen ∧ SB w' p (txt ls).2 := by
  subst hn
  by_cases hne : ls = []
  · subst hne
    refine (rtext_nil p c w).mono ?_
    rintro e w' ⟨rfl, u⟩
    exact ⟨none, 0, 0, rfl, rfl, u, Nat.le_refl _, by unfold maxLen; omega, fun h => absurd rfl h⟩
  · obtain ⟨b, o, rfl, hi⟩ := h hne
    have hl : 0 < ls.length := List.length_pos_iff.2 hne
    have hlast := List.getLast?_eq_some_getLast hne
    have e : txt ls = (bLink, lkText (ls.getLast hne)) := by unfold txt; rw [hlast]
    rw [e]
    refine rtext_last b o _ c _ w hl hf.1 (hf.2 _ (List.getLast_mem hne)) ?_
    have := hi (ls.length - 1) (by omega)
    rw [List.getLast_eq_getElem]
    exact this

theorem txt_small (ls : List Lk) (hf : Few ls) : (txt ls).1.size ≤ 200 ∧ (txt ls).2.length ≤ 2000 := by
  unfold txt
  cases h : ls.getLast? with
  | none => exact ⟨by show bNone.size ≤ 200; decide, by simp⟩
  | some x => exact ⟨by show bLink.size ≤ 200; decide, lkText_len (hf.2 x (List.mem_of_getLast? h))⟩

set_option maxRecDepth 100000 in
set_option maxHeartbeats 1000000 in
theorem rhead_calls (p : Option Addr) (n c : Nat) (ls : List Lk) (w : World) (hn : n = ls.length) (hf : Few ls) (h : Links w p ls) :
    Calls Tryd.prog 22 #[.slice p n c] w fun e w' => e = .returned (.agg (u8s (hd ls)).toArray) ∧ Up w w' := by
  have TC := Lib.hid fun W (hu : Up w W) => rtext_calls p n c ls W hn hf (h.up hu)
  have hts := txt_small ls hf
  have TG := Lib.hid fun (w : World) (p : Option Addr) (m c : Nat) (hm : m = (txt ls).2.length) (h1 : m ≤ c) (h2 : c ≤ maxLen) (h3 : SB w p (txt ls).2) => (by have := rtagged_calls (txt ls).1 p c (txt ls).2 w hts.1 (by have := hts.2; omega) (by rw [← hm]; exact h1) h2 h3; rw [← hm] at this; exact this : Calls Tryd.prog 34 #[.string (txt ls).1, .slice p m c] w fun e w' => e = .returned (.agg (u8s (Sha.tagged (txt ls).1.data.toList (txt ls).2)).toArray) ∧ Up w w')
  have hl := hd_len ls
  obtain ⟨D2, hD2⟩ : ∃ D2, D2 = (u8s (hd ls)).toArray := ⟨_, rfl⟩
  have HD2 : Hid ((u8s (Sha.tagged (txt ls).1.data.toList (txt ls).2)).toArray = D2) := hD2.symm
  rw [← hD2]
  have hD2s : D2.size = 32 := by rw [hD2, u8s_arr]; exact hl
  have hD2c : D2.all (·.oneCell') = true := by rw [hD2]; exact u8s_all _
  have HD2s := Lib.hid hD2s
  have HD2c := Lib.hid hD2c
  obtain ⟨tg, htg⟩ : ∃ tg, tg = (txt ls).1 := ⟨_, rfl⟩
  rw [← htg] at TC TG HD2
  have HTG := Lib.hid htg
  clear hn hf h hts hl hD2 hD2s hD2c htg
  go_enter Tryd.func22, Tryd.ntmps22
  go_wp2_with (refine wpList_allocG rfl 35 32 allocsDigest rfl ?_; intro W1 u1 z1 hz1; have U1 := Lib.hid u1; have HZ1 := Lib.hid hz1; clear u1 z1 hz1)
  refine (TC.out W1 U1.out).mono ?_
  rintro e w2 ⟨p2, m2, c2, rfl, hm2, u2, g1, g2, g3⟩
  have T2 := Lib.hid (TG.out w2 p2 m2 c2 hm2 g1 g2 g3)
  have U2 : Hid (Up W1 w2) := u2
  clear hm2 u2 g1 g2 g3
  go_wp2_with fail
  refine T2.out.mono ?_
  rintro e w3 ⟨rfl, u3⟩
  rw [HD2.out]
  obtain ⟨Z1, hZ1, hb1⟩ := HZ1.out
  have U3 : Hid (Up W1 w3) := Up.trans U2.out u3
  have hb3 := (U3.out.block w.heap.size (lt_of_block hb1)).trans hb1
  have HB3 := Lib.hid hb3
  have HZ := Lib.hid hZ1
  obtain ⟨bd, hbd⟩ : ∃ b, b = w.heap.size := ⟨_, rfl⟩
  have HBD := Lib.hid hbd
  rw [← hbd] at HB3
  rw [← hbd]
  clear u3 hb3 hb1 hZ1 HZ1 hbd
  go_wp2_with (refine wpList_store_row rfl 35 (.tmp 2) (.tmp 12) rfl bd D2 rfl rfl 35 _ HB3.out (by rw [HD2s.out]; rfl) (by rw [HZ.out, HD2s.out]) HD2c.out ?_)
  refine bodyPost_ret (results_cell_row rfl _ _ bd _ D2 (0, 0) _ rfl (setRow_heap _ _ _ _ _ _ HB3.out) rfl rfl (by rw [HD2s.out]; rfl)) rfl ⟨rfl, ?_⟩
  rw [HBD.out]
  exact below_setRow (Up.trans U1.out U3.out) (Nat.le_refl _) _

end Go.Proofs.YtpafambdccejnaaDoor
