/- ROWS OF api.Value: append, and what Encode asks of items. -/
import Derived.Test.YtmifpokafaiebaaDoorCod5
import Derived.Laws.IdiomStrings
import Derived.Lib.BufferRead
namespace Go.Proofs.YtmifpokafaiebaaDoor
open Go.RowKit
set_option linter.unusedVariables false
set_option maxRecDepth 100000

def rowV (els : List El) : List Value := els.flatMap fun el => el.x.toList
theorem x_len (el : El) : el.x.toList.length = 4 := rfl
theorem rowV_len (els : List El) : (rowV els).length = els.length * 4 := by
  induction els with
  | nil => rfl
  | cons x xs ih => rw [rowV, List.flatMap_cons, List.length_append, x_len]; rw [rowV] at ih; rw [ih, List.length_cons]; omega
theorem rowV_get : ∀ (els : List El) (i j : Nat) (h : i < els.length), j < 4 → (rowV els)[i * 4 + j]? = els[i].x.toList[j]?
  | x :: xs, 0, j, h, hj => by
    rw [rowV, List.flatMap_cons, List.getElem?_append_left (by rw [x_len]; omega), Nat.zero_mul, Nat.zero_add]; rfl
  | x :: xs, i + 1, j, h, hj => by
    have ih := rowV_get xs i j (by simpa using h) hj
    rw [rowV, List.flatMap_cons, List.getElem?_append_right (by rw [x_len]; omega), x_len, show (i + 1) * 4 + j - 4 = i * 4 + j by omega]
    exact ih

/-- v is a slice of values of the call's own -/
def OwnV (w : World) (base : Nat) (v : Value) (els : List El) : Prop := w.ownsRow base 64 4 v els.length (rowV els)
theorem OwnV.nil (w : World) (base : Nat) : OwnV w base (.slice none 0 0) [] := World.ownsRow_nil w base _ 4
theorem OwnV.block {w : World} {base : Nat} {v : Value} {els : List El} (h : OwnV w base v els) : ∀ g, v.ownBlock = some g → base ≤ g := fun g hg => (World.ownsRow.lt h g hg).1
theorem OwnV.lt {w : World} {base : Nat} {v : Value} {els : List El} (h : OwnV w base v els) : ∀ g, v.ownBlock = some g → g < w.heap.size := fun g hg => (World.ownsRow.lt h g hg).2
theorem OwnV.kept {w w' : World} {base : Nat} {v : Value} {els : List El} (h : OwnV w base v els) (hk : ∀ g, v.ownBlock = some g → w'.heap[g]? = w.heap[g]?) : OwnV w' base v els := by
  refine ⟨h.1, ?_⟩
  rcases h.2 with h | ⟨g, cap, cur, rfl, hbg, hg, h2⟩
  · exact .inl h
  · exact .inr ⟨g, cap, cur, rfl, hbg, (hk g rfl).trans hg, h2⟩
theorem OwnV.up {w w' : World} {base : Nat} {v : Value} {els : List El} (h : OwnV w base v els) (hu : Up w w') : OwnV w' base v els := h.kept fun g hg => hu.block g (h.lt g hg)
theorem OwnV.form {w : World} {base : Nat} {v : Value} {els : List El} (h : OwnV w base v els) : ∃ p c, v = .slice p els.length c ∧ Els w p els ∧ (∀ b o, p = some ⟨b, o, none⟩ → base ≤ b ∧ b < w.heap.size) := by
  rcases h.2 with ⟨rfl, hn⟩ | ⟨g, cap, cur, rfl, hbg, hg, hnc, hcm, hcs, htake⟩
  · have : els = [] := List.eq_nil_of_length_eq_zero hn
    subst this
    exact ⟨none, 0, rfl, fun h => absurd rfl h, fun b o h => by cases h⟩
  · refine ⟨_, cap, rfl, fun _ => ⟨g, 0, rfl, fun i hi => ?_⟩, fun b o e => by injection e with e; injection e with e1 e2; subst e1; exact ⟨hbg, lt_of_block hg⟩⟩
    have key : ∀ j, j < 4 → w.cell? ⟨g, 0 + (i * 4 + j), none⟩ = els[i].x.toList[j]? := fun j hj => by
      have hc := h.cells (g := g) rfl (i * 4 + j)
      have hr := rowV_get els i j hi hj
      obtain ⟨u, hu⟩ : ∃ u, els[i].x.toList[j]? = some u := ⟨_, List.getElem?_eq_getElem (show j < els[i].x.toList.length from hj)⟩
      rw [hu]
      have e : (Addr.add ⟨g, 0, none⟩ (i * 4 + j)) = ⟨g, 0 + (i * 4 + j), none⟩ := by simp [Addr.add] <;> (intro h1; omega)
      rw [← e]
      exact hc u (hr.trans hu)
    exact ⟨key 0 (by omega), key 1 (by omega), key 2 (by omega), key 3 (by omega)⟩

theorem ownV_append1 (w : World) (base : Nat) (v : Value) (els : List El) (el : El) (hown : OwnV w base v els) (hl : els.length ≤ 65535) (hbase : base ≤ w.heap.size) :
    ∃ v' w', Sem.run Tryd.prog (Builtin.append_ #[62, 62] 62 #[v, .slice (some ⟨w.heap.size, 0, none⟩) 1 1]) (w.alloc (.cells el.x 64 (0, 0))) = .ok v' w' ∧ OwnV w' base v' (els ++ [el]) ∧ Below base w w' ∧ Grow w w' v v' := by
  obtain ⟨W, hW⟩ : ∃ W, W = w.alloc (.cells el.x 64 (0, 0)) := ⟨_, rfl⟩
  have hu : Up w W := by rw [hW]; exact (Up.refl w).alloc _
  have hh : W.heap[w.heap.size]? = some (.cells el.x 64 (0, 0)) := by rw [hW]; exact heap_new rfl
  have hsrc : Src Tryd.prog 4 62 (.slice (some ⟨w.heap.size, 0, none⟩) 1 1) 1 el.x.toList W := by
    refine Src.ofSlice W rfl _ 1 1 _ rfl (fun j u hj => ?_) ?_
    · have e : (Addr.add ⟨w.heap.size, 0, none⟩ j) = ⟨w.heap.size, j, none⟩ := by simp [Addr.add] <;> (intro h1; omega)
      rw [e, cell_of_row W _ j _ _ _ hh]
      simpa using hj
    · intro u hu
      simp only [El.x, vCells, List.mem_cons, List.not_mem_nil, or_false] at hu
      rcases hu with rfl | rfl | rfl | rfl <;> rfl
  obtain ⟨i, z, hi, hz, h1, h2, h3⟩ : ∃ i z, Tryd.prog.info? 64 = some i ∧ i.zero = some z ∧ i.size = 4 ∧ i.bytes = 56 ∧ z.cells.size = 4 := ⟨_, _, rfl, rfl, rfl, rfl, rfl⟩
  obtain ⟨v', w', hr, ho, hg, hgo⟩ := run_append_src (P := Tryd.prog) W base 62 62 62 64 i z 4 56 rfl hi hz h1 h2 h3 v els.length (rowV els) (hown.up hu) _ 1 el.x.toList hsrc (by omega) (by omega) (Nat.le_trans hbase hu.size)
  rw [← hW]
  refine ⟨v', w', hr, ?_, (hu.mono hbase).trans (grown_below hg (Nat.le_trans hbase hu.size) hown.block), Grow.up hu ⟨hg, hgo⟩⟩
  unfold OwnV
  rw [List.length_append, show rowV (els ++ [el]) = rowV els ++ el.x.toList by simp [rowV]]
  exact ho

theorem wpList_appV {w : World} {ops : Array Oper} {rest : List Oper} {o : Oper} {a : Act} {Q : Exit → Act → World → Prop} (hgd : o.guard = none) (s x : Operand)
    (ho : o.op = .call { callee := .builtin .append, args := #[s, x], argTypes := #[62, 62] }) (hty : o.type = 62)
    (base : Nat) (v : Value) (els : List El) (el : El) (cs : Array Value) (hcs : cs = el.x) (hs : a.eval s = v) (hx : a.eval x = .slice (some ⟨w.heap.size, 0, none⟩) 1 1) (hown : OwnV w base v els)
    (hl : els.length ≤ 65535) (hbase : base ≤ w.heap.size) (h : ∀ p m c w', OwnV w' base (.slice p m c) (els ++ [el]) → Below base w w' → Grow w w' v (.slice p m c) → wpList Tryd.prog ops Q rest (a.put o.dst (.slice p m c)) w') :
    wpList Tryd.prog ops Q (o :: rest) a (w.alloc (.cells cs 64 (0, 0))) := by
  subst hcs
  obtain ⟨v', w', hr, ho2, hbl, hg⟩ := ownV_append1 w base v els el hown hl hbase
  obtain ⟨p, c, rfl, _, _⟩ := ho2.form
  exact wpList_append_run hgd s x 62 62 ho v _ _ w' hs hx (by rw [← hr, hty]) (h _ _ _ w' ho2 hbl hg)

/-! ### items -/
def elIt : Enc.It → El
  | .inl n => ⟨1, n, ⟨#[]⟩, none, 0, 0, 0, Enc.encI n⟩
  | .inr s => ⟨2, 0, s, none, 0, 0, 0, Enc.encT s.data.toList⟩
theorem elIt_e (x : Enc.It) : (elIt x).e = Enc.encIt x := by cases x <;> rfl
theorem elIt_in (w : World) (x : Enc.It) (hx : x.ok) : ElIn w (elIt x) := by
  cases x with
  | inl n => exact ⟨fun W _ => formedInt_calls n none 0 W, Nat.zero_le _, fun w0 base bw bv _ _ _ _ _ _ => ⟨.inl rfl, writesInt w0 base bv n ⟨#[]⟩ _ hx.1 hx.2⟩⟩
  | inr s => exact ⟨fun W _ => formedText_calls s none 0 W, Nat.zero_le _, fun w0 base bw bv _ _ _ _ _ _ => ⟨.inr (.inl rfl), writesText w0 base bv 0 s _ (by have : s.size ≤ 1048576 := hx; omega)⟩⟩

def encIts (xs : List Enc.It) : List UInt8 := Enc.encL (xs.map Enc.encIt)
theorem els_map (xs : List Enc.It) : (xs.map elIt).map El.e = xs.map Enc.encIt := by
  rw [List.map_map]; congr 1; funext x; exact elIt_e x

/-- Encode at a list of items in a row of one's own -/
theorem encodeIts_calls (base : Nat) (v : Value) (xs : List Enc.It) (w : World) (ho : OwnV w base v (xs.map elIt)) (hok : ∀ x ∈ xs, x.ok) (hlen : xs.length ≤ 65536) (htot : (xs.map Enc.encIt).flatten.length ≤ 268435456) :
    Calls Tryd.prog 29 #[.agg #[.int .i64 3, .int .i64 0, .string ⟨#[]⟩, v]] w fun e w' => ∃ v', e = .returned (.tuple #[v', .int .i64 0]) ∧ Own w' w.heap.size v' (encIts xs) ∧ Up w w' := by
  obtain ⟨p, c, rfl, hels, hlow⟩ := ho.form
  have := encode_calls p c (xs.map elIt) w (fun el hel => by
    obtain ⟨x, hx, rfl⟩ := List.mem_map.1 hel
    exact elIt_in w x (hok x hx)) hels (fun b o h => (hlow b o h).2) (by simpa using hlen) (by rw [encEls, els_map]; exact htot)
  rw [els_map] at this
  exact this

end Go.Proofs.YtmifpokafaiebaaDoor
