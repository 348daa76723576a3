/- APPEND BY ITS LENGTH, A ROW WRITTEN IN PLACE: general laws. -/
import Derived.Test.YtmifpokafaiebaaDoorSum
import Derived.Lib.ConvBytes
import Derived.Deep.AppendSrc
namespace Go.Proofs.YtmifpokafaiebaaDoor
open Go.RowKit
set_option linter.unusedVariables false
set_option maxRecDepth 100000

theorem zeros_join (n cap : Nat) (h : n ≤ cap) : Builtin.zeroCells (Value.int .u8 0).cells n ++ Builtin.zeroCells (Value.int .u8 0).cells (cap - n) = madeCells (Value.int .u8 0).cells cap := by
  apply Array.ext
  · simp [Builtin.zeroCells, madeCells, Value.cells]; omega
  · intro i h1 h2
    simp [Builtin.zeroCells, madeCells, Value.cells, Nat.mod_one, Array.getElem_append]

theorem run_append_zeros {P : Program} (w : World) (t tx ty e : TypeId) (i : TypeInfo) (z : Value) (d : TypeDesc) (ht : P.underlying t = some (.slice e)) (hx : P.underlying tx = some d) (hd : (match d with | .int _ => true | _ => false) = true)
    (hi : P.info? e = some i) (hz : i.zero = some z) (h1 : i.size = 1) (hb : i.bytes = 1) (n : Nat) (h0 : 0 < n) (hn : n ≤ 4096) :
    (Builtin.append_ #[t, tx] ty #[.slice none 0 0, .int .i64 n]).run P w =
      .ok (.slice (some ⟨w.heap.size, 0, none⟩) n (grownCap w n 0 e)) (w.drew.alloc (.cells (Builtin.zeroCells z.cells n ++ Builtin.zeroCells z.cells (grownCap w n 0 e - n)) e (0, 0))) := by
  have hn0 : n ≠ 0 := by omega
  have h63' : ¬ (9223372036854775807 < (n : Int)) := by omega
  have h48' : ¬ (281474976710656 < Builtin.nextslicecap n 0) := by rw [nextslicecap_zero h0]; omega
  have hw : IntKind.i64.wrap (n : Int) = n := IntWalk.i64_in _ (by omega)
  have hneg : ¬ ((n : Int) < 0) := by omega
  have hbig : ¬ (281474976710656 < (n : Int)) := by omega
  cases d <;> simp at hd
  simp [Builtin.append_, run_underlying ht, run_underlying hx, sizeOf, typeInfo, zeroValue, hi, hz, h1, hb, asInt, asIntOf, hw, hneg, hbig, hn0, h63', h48', Question.forced, run_firstCells_none, newRow, grownCap]

theorem wpList_append_run {P : Program} {w : World} {ops : Array Oper} {rest : List Oper} {o : Oper} {a : Act} {Q : Exit → Act → World → Prop} (hgd : o.guard = none) (s x : Operand) (t tx : TypeId)
    (ho : o.op = .call { callee := .builtin .append, args := #[s, x], argTypes := #[t, tx] }) (vs vx v : Value) (W5 : World) (hs : a.eval s = vs) (hx : a.eval x = vx)
    (hrun : (Builtin.append_ #[t, tx] o.type #[vs, vx]).run P w = .ok v W5)
    (h : wpList P ops Q rest (a.put o.dst v) W5) : wpList P ops Q (o :: rest) a w := by
  refine wpList_plain hgd fun K hK => ?_
  unfold Oper.wp
  simp [execOp, ho, resolve, invoke, builtin, hs, hx, hrun, Result.andThen]
  exact hK _ _ h

theorem heap_setCells_row (b : Nat) (t : TypeId) : ∀ (vs : List Value) (o : Nat) (cs : List Value) (w : World), w.heap[b]? = some (.cells cs.toArray t (0, 0)) → o + vs.length ≤ cs.length →
    (w.setCells b o vs).heap[b]? = some (.cells (splice cs o vs).toArray t (0, 0))
  | [], o, cs, w, h, hl => by simp [World.setCells, splice]; exact h
  | v :: vs, o, cs, w, h, hl => by
    have h1 : (w.setCell ⟨b, o, none⟩ v).heap[b]? = some (.cells (cs.set o v).toArray t (0, 0)) := by
      rw [heap_setCell_same w b o _ t _ h]; simp
    simp only [List.length_cons] at hl
    have h2 := heap_setCells_row b t vs (o + 1) (cs.set o v) _ h1 (by simp; omega)
    rw [World.setCells, h2]
    congr 3
    unfold splice
    have ho : o < cs.length := by omega
    rw [List.take_add_one, List.getElem?_set_self ho, List.take_set, List.drop_set_of_lt (by omega), List.set_eq_of_length_le (by simp; exact Nat.min_le_left _ _), show o + 1 + vs.length = o + (vs.length + 1) by omega]
    simp
theorem chg_setCells (b : Nat) : ∀ (vs : List Value) (o : Nat) (w : World), Chg (· = b) w (w.setCells b o vs)
  | [], _, _ => Chg.refl _ _
  | v :: vs, o, w => by rw [World.setCells]; exact (Chg.setCell' (S := (· = b)) w v rfl).trans (chg_setCells b vs (o + 1) _)

theorem SB.kept {w w' : World} {p : Option Addr} {l : List UInt8} (h : SB w p l) (hk : ∀ b, b < w.heap.size → w'.heap[b]? = w.heap[b]?) : SB w' p l := fun hne => by
  obtain ⟨b, o, rfl, hB⟩ := h hne
  exact ⟨b, o, rfl, hB.kept (hk b (hB.block (List.length_pos_iff.2 hne)))⟩

set_option maxRecDepth 100000 in
theorem append_room (w : World) (B cap c : Nat) (L l : List UInt8) (p : Option Addr) (hb : SB w p l) (hB : w.heap[B]? = some (.cells (u8s (L ++ List.replicate (cap - L.length) 0)).toArray 5 (0, 0))) (hl : L.length + l.length ≤ cap) :
    ∃ w', Sem.run Tryd.prog (Builtin.append_ #[27, 27] 27 #[.slice (some ⟨B, 0, none⟩) L.length cap, .slice p l.length c]) w = .ok (.slice (some ⟨B, 0, none⟩) (L.length + l.length) cap) w' ∧
      w'.heap[B]? = some (.cells (u8s ((L ++ l) ++ List.replicate (cap - (L ++ l).length) 0)).toArray 5 (0, 0)) ∧ Chg (· = B) w w' := by
  have hsrc : Src Tryd.prog 1 27 (.slice p l.length c) l.length (u8s l) w := by
    cases l with
    | nil =>
      cases p with
      | none => exact Src.ofNil w rfl c
      | some a => exact Src.ofSlice w rfl a 0 c [] rfl (fun j u h => by cases h) (fun _ h => by cases h)
    | cons x xs =>
      obtain ⟨b, o, rfl, h⟩ := hb (by simp)
      exact Src.ofSlice w rfl _ _ c _ (by rw [u8s_length, Nat.mul_one]) h.src (u8s_one _)
  obtain ⟨i, hi, hsz⟩ : ∃ i, Tryd.prog.info? 5 = some i ∧ i.size = 1 := ⟨_, rfl, rfl⟩
  have hrun := run_append_room_src (P := Tryd.prog) w 27 27 27 5 i rfl hi B 0 L.length cap (.slice p l.length c) l.length (u8s l) (by rw [hsz]; exact hsrc) hl
    (fun j hj => by
      rw [hsz]
      rw [u8s_length] at hj
      obtain ⟨v, hv⟩ := row_cell hB (i := 0 + L.length * 1 + j) (by rw [u8s_length]; simp; omega)
      rw [hv]; rfl)
    (fun j _ => free_row hB _)
  rw [hsz] at hrun
  refine ⟨_, hrun, ?_, chg_setCells _ _ _ _⟩
  have h2 := heap_setCells_row B 5 (u8s l) (0 + L.length * 1) _ w hB (by rw [u8s_length, u8s_length]; simp; omega)
  refine h2.trans ?_
  congr 3
  unfold splice u8s
  simp only [Nat.zero_add, Nat.mul_one, List.length_map, ← List.map_take, ← List.map_drop, ← List.map_append, List.length_append]
  rw [List.take_left' rfl, ← List.drop_drop, List.drop_left' rfl, List.drop_replicate, show cap - (L.length + l.length) = cap - L.length - l.length by omega, List.append_assoc]

end Go.Proofs.YtmifpokafaiebaaDoor
