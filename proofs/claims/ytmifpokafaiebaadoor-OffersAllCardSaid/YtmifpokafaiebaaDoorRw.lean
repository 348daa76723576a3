/- ROWS OF ELEMENTS OF SOME CELLS EACH, whatever the elements are: where they lie; rows of the call's own; append. It names no program. -/
import Derived.Test.YtmifpokafaiebaaDoorArr
import Derived.Great.BuildSlice
import Derived.Deep.AppendSrc
import Derived.WalkSpells
namespace Go.Proofs.YtmifpokafaiebaaDoor
open Go Go.RowKit
set_option linter.unusedVariables false

/-- the cells of a list of elements -/
def fl {α : Type} (enc : α → List Value) (l : List α) : List Value := (l.map enc).flatten
section
variable {α : Type} {enc : α → List Value} {k : Nat}
theorem fl_nil : fl enc [] = [] := rfl
theorem fl_cons (x : α) (l : List α) : fl enc (x :: l) = enc x ++ fl enc l := rfl
theorem fl_append (l m : List α) : fl enc (l ++ m) = fl enc l ++ fl enc m := by simp [fl]
theorem fl_one (x : α) : fl enc [x] = enc x := by simp [fl]
theorem fl_len (l : List α) (h : ∀ x ∈ l, (enc x).length = k) : (fl enc l).length = l.length * k := by
  induction l with
  | nil => simp [fl]
  | cons x r ih => rw [fl_cons, List.length_append, h x List.mem_cons_self, ih fun y hy => h y (List.mem_cons_of_mem _ hy), List.length_cons, Nat.add_mul]; omega
theorem fl_get : ∀ (l : List α) (h : ∀ x ∈ l, (enc x).length = k) (i j : Nat) (hi : i < l.length), j < k → (fl enc l)[i * k + j]? = (enc l[i])[j]?
  | x :: r, h, 0, j, hi, hj => by
    rw [fl_cons, Nat.zero_mul, Nat.zero_add, List.getElem?_append_left (by rw [h x List.mem_cons_self]; exact hj)]; rfl
  | x :: r, h, i + 1, j, hi, hj => by
    have hx := h x List.mem_cons_self
    have ih := fl_get r (fun y hy => h y (List.mem_cons_of_mem _ hy)) i j (by simpa using hi) hj
    rw [fl_cons, List.getElem?_append_right (by rw [hx, Nat.add_mul]; omega), hx, show (i + 1) * k + j - k = i * k + j by rw [Nat.add_mul]; omega]
    exact ih

/-- from this address on lie these elements -/
def RowAt (w : World) (p : Option Addr) (k : Nat) (enc : α → List Value) (l : List α) : Prop := l ≠ [] → ∃ b o, p = some ⟨b, o, none⟩ ∧ ∀ i (h : i < l.length), w.rangeAt b (o + i * k) (enc l[i])
theorem RowAt.up {w w' : World} {p : Option Addr} {l : List α} (h : RowAt w p k enc l) (hu : Up w w') : RowAt w' p k enc l := fun hne => by
  obtain ⟨b, o, e, hi⟩ := h hne
  exact ⟨b, o, e, fun i h => rangeAt_up (hi i h) hu⟩
theorem rangeAt_kept' {w w' : World} {b o : Nat} {cs : List Value} (h : w.rangeAt b o cs) (hk : w'.heap[b]? = w.heap[b]?) : w'.rangeAt b o cs := fun j v hv => (World.cell?_of_block hk).trans (h j v hv)
theorem RowAt.kept {w w' : World} {p : Option Addr} {l : List α} (h : RowAt w p k enc l) (hk : ∀ b o, p = some ⟨b, o, none⟩ → w'.heap[b]? = w.heap[b]?) : RowAt w' p k enc l := fun hne => by
  obtain ⟨b, o, e, hi⟩ := h hne
  exact ⟨b, o, e, fun i h => rangeAt_kept' (hi i h) (hk b o e)⟩
theorem RowAt.nil (w : World) (p : Option Addr) : RowAt w p k enc [] := fun h => absurd rfl h
theorem RowAt.take {w : World} {p : Option Addr} {l : List α} (h : RowAt w p k enc l) (n : Nat) : RowAt w p k enc (l.take n) := fun hne => by
  have hne' : l ≠ [] := fun e => hne (by rw [e]; simp)
  obtain ⟨b, o, e, hi⟩ := h hne'
  refine ⟨b, o, e, fun i hlt => ?_⟩
  have : i < l.length := by simp at hlt; omega
  rw [List.getElem_take]
  exact hi i this
theorem RowAt.drop {w : World} {b o : Nat} {l : List α} (h : RowAt w (some ⟨b, o, none⟩) k enc l) (n : Nat) : RowAt w (some ⟨b, o + n * k, none⟩) k enc (l.drop n) := fun hne => by
  have hne' : l ≠ [] := fun e => hne (by rw [e]; simp)
  obtain ⟨b', o', e, hi⟩ := h hne'
  injection e with e
  injection e with e1 e2
  subst e1 e2
  refine ⟨b, o + n * k, rfl, fun i hlt => ?_⟩
  have h2 : n + i < l.length := by simp at hlt; omega
  rw [List.getElem_drop, show o + n * k + i * k = o + (n + i) * k by rw [Nat.add_mul, Nat.add_assoc]]
  exact hi (n + i) h2
theorem RowAt.cells {w : World} {b o : Nat} {l : List α} (hk : ∀ x ∈ l, (enc x).length = k) (h : ∀ i (h : i < l.length), w.rangeAt b (o + i * k) (enc l[i])) (j : Nat) (u : Value) (hu : (fl enc l)[j]? = some u) : w.cell? ⟨b, o + j, none⟩ = some u := by
  have hj := (List.getElem?_eq_some_iff.1 hu).1
  rw [fl_len l hk] at hj
  have h0 : 0 < k := Nat.pos_of_ne_zero fun e => by subst e; simp at hj
  have hi : j / k < l.length := by rw [Nat.mul_comm] at hj; exact Nat.div_lt_of_lt_mul hj
  have hm : j % k < k := Nat.mod_lt _ h0
  have e : j / k * k + j % k = j := by rw [Nat.mul_comm]; exact Nat.div_add_mod j k
  have := fl_get l hk (j / k) (j % k) hi hm
  rw [e, hu] at this
  have h4 := h (j / k) hi (j % k) u this.symm
  rw [show o + j / k * k + j % k = o + j by omega] at h4
  exact h4
theorem rowAt_of_cells {w : World} {g o : Nat} {l : List α} (hk : ∀ x ∈ l, (enc x).length = k) (hc : ∀ j u, (fl enc l)[j]? = some u → w.cell? ⟨g, o + j, none⟩ = some u) : RowAt w (some ⟨g, o, none⟩) k enc l := fun hne => by
  refine ⟨g, o, rfl, fun i hi j u hu => ?_⟩
  have hj : j < k := by rw [← hk _ (List.getElem_mem hi)]; exact (List.getElem?_eq_some_iff.1 hu).1
  have := hc (i * k + j) u (by rw [fl_get l hk i j hi hj]; exact hu)
  rw [show o + i * k + j = o + (i * k + j) by omega]
  exact this

/-- v is a row of the call's own -/
def OwnR (w : World) (base : Nat) (E : TypeId) (k : Nat) (enc : α → List Value) (v : Value) (l : List α) : Prop := w.ownsRow base E k v l.length (fl enc l)
section
variable {w w' : World} {base : Nat} {E : TypeId} {v : Value} {l : List α}
theorem OwnR.nil : OwnR w base E k enc (.slice none 0 0) [] := World.ownsRow_nil w base _ k
theorem OwnR.block (h : OwnR w base E k enc v l) : ∀ g, v.ownBlock = some g → base ≤ g := fun g hg => (World.ownsRow.lt h g hg).1
theorem OwnR.lt (h : OwnR w base E k enc v l) : ∀ g, v.ownBlock = some g → g < w.heap.size := fun g hg => (World.ownsRow.lt h g hg).2
theorem OwnR.kept (h : OwnR w base E k enc v l) (hk : ∀ g, v.ownBlock = some g → w'.heap[g]? = w.heap[g]?) : OwnR w' base E k enc v l := by
  refine ⟨h.1, ?_⟩
  rcases h.2 with h | ⟨g, cap, cur, rfl, hbg, hg, h2⟩
  · exact .inl h
  · exact .inr ⟨g, cap, cur, rfl, hbg, (hk g rfl).trans hg, h2⟩
theorem OwnR.up (h : OwnR w base E k enc v l) (hu : Up w w') : OwnR w' base E k enc v l := h.kept fun g hg => hu.block g (h.lt g hg)
theorem OwnR.less {base' : Nat} (h : OwnR w base E k enc v l) (hb : base' ≤ base) : OwnR w base' E k enc v l := by
  refine ⟨h.1, ?_⟩
  rcases h.2 with h | ⟨g, cap, cur, rfl, hbg, hg, h2⟩
  · exact .inl h
  · exact .inr ⟨g, cap, cur, rfl, Nat.le_trans hb hbg, hg, h2⟩
theorem OwnR.form (hk : ∀ x ∈ l, (enc x).length = k) (h : OwnR w base E k enc v l) : ∃ p c, v = .slice p l.length c ∧ l.length ≤ c ∧ c ≤ maxLen ∧ RowAt w p k enc l ∧ (∀ b o, p = some ⟨b, o, none⟩ → base ≤ b ∧ b < w.heap.size) := by
  rcases h.2 with ⟨rfl, hn⟩ | ⟨g, cap, cur, rfl, hbg, hg, hnc, hcm, hcs, htake⟩
  · have : l = [] := List.eq_nil_of_length_eq_zero hn
    subst this
    exact ⟨none, 0, rfl, Nat.le_refl _, by unfold maxLen; omega, RowAt.nil _ _, fun b o h => by cases h⟩
  · refine ⟨_, cap, rfl, hnc, hcm, rowAt_of_cells hk (fun j u hu => ?_), fun b o e => by injection e with e; injection e with e1 e2; subst e1; exact ⟨hbg, lt_of_block hg⟩⟩
    have := World.ownsRow.cells h (g := g) rfl j u hu
    rw [Addr.add_mid] at this
    exact this
/-- the same, the block too -/
theorem OwnR.form2 (h : OwnR w base E k enc v l) (hne : l ≠ []) : ∃ g c cur, v = .slice (some ⟨g, 0, none⟩) l.length c ∧ base ≤ g ∧ w.heap[g]? = some (.cells cur E (0, 0)) ∧ l.length ≤ c ∧ c ≤ maxLen ∧ cur.size = c * k ∧ cur.toList.take (fl enc l).length = fl enc l := by
  rcases h.2 with ⟨rfl, hn⟩ | ⟨g, cap, cur, rfl, hbg, hg, hnc, hcm, hcs, htake⟩
  · exact absurd (List.eq_nil_of_length_eq_zero hn) hne
  · exact ⟨g, cap, cur, rfl, hbg, hg, hnc, hcm, hcs, by rw [show (fl enc l).length = l.length * k from h.1]; exact htake⟩

/-- what there is to know of the element's type -/
structure EltT (P : Program) (T E : TypeId) (k bytes : Nat) : Prop where
  sl : P.underlying T = some (.slice E)
  info : ∃ i z, P.info? E = some i ∧ i.zero = some z ∧ i.size = k ∧ i.bytes = bytes ∧ z.cells.size = k

variable {P : Program} {T : TypeId} {bytes : Nat}
theorem RowAt.src {p : Option Addr} (hT : EltT P T E k bytes) (hk : ∀ x ∈ l, (enc x).length = k) (hone : ∀ x ∈ l, ∀ u ∈ enc x, u.oneCell' = true) (h : RowAt w p k enc l) (c : Nat) : Src P k T (.slice p l.length c) l.length (fl enc l) w := by
  have h1 : ∀ u ∈ fl enc l, u.oneCell' = true := fun u hu => by
    obtain ⟨c, hc, hu⟩ := List.mem_flatten.1 hu
    obtain ⟨x, hx, rfl⟩ := List.mem_map.1 hc
    exact hone x hx u hu
  by_cases hne : l = []
  · subst hne
    cases p with
    | none => exact Src.ofNil w hT.sl c
    | some a => exact Src.ofSlice w hT.sl a 0 c [] (by simp) (fun j u h => by cases h) (fun _ h => by cases h)
  · obtain ⟨b, o, rfl, h2⟩ := h hne
    refine Src.ofSlice w hT.sl _ _ c _ (fl_len l hk) (fun j u hu => ?_) h1
    rw [Addr.add_mid]
    exact RowAt.cells hk h2 j u hu

/-- append(v, row...) -/
theorem ownR_append {p : Option Addr} {c : Nat} {l2 : List α} (hT : EltT P T E k bytes) (hk : ∀ x ∈ l2, (enc x).length = k) (hone : ∀ x ∈ l2, ∀ u ∈ enc x, u.oneCell' = true) (hown : OwnR w base E k enc v l) (h : RowAt w p k enc l2)
    (hl : l.length + l2.length ≤ 1000000) (hby : bytes ≤ 10000) (hbase : base ≤ w.heap.size) :
    ∃ v' w', Sem.run P (Builtin.append_ #[T, T] T #[v, .slice p l2.length c]) w = .ok v' w' ∧ OwnR w' base E k enc v' (l ++ l2) ∧ Below base w w' ∧ Grow w w' v v' := by
  obtain ⟨i, z, hi, hz, h1, h2, h3⟩ := hT.info
  obtain ⟨v', w', hr, ho, hg, hgo⟩ := run_append_src (P := P) w base T T T E i z k bytes hT.sl hi hz h1 h2 h3 v l.length (fl enc l) hown _ l2.length (fl enc l2) (RowAt.src hT hk hone h c) (by omega) (Nat.le_trans (Nat.mul_le_mul hl hby) (by omega)) hbase
  refine ⟨v', w', hr, ?_, grown_below hg hbase hown.block, ⟨hg, hgo⟩⟩
  unfold OwnR
  rw [List.length_append, fl_append]
  exact ho
theorem rowAt_one {w : World} {g : Nat} {x : α} {D : Array Value} {t : TypeId} {fr : Nat × Nat} (hD : D.toList = enc x) (hg : w.heap[g]? = some (.cells D t fr)) : RowAt w (some ⟨g, 0, none⟩) k enc [x] := fun _ =>
  ⟨g, 0, rfl, fun i hi => by
    have : i = 0 := by simpa using hi
    subst this
    intro j u hu
    simp only [Nat.zero_mul, Nat.zero_add]
    rw [cell_of_row w g j _ _ _ hg, ← Array.getElem?_toList, hD]
    exact hu⟩
theorem wpList_appR {ops : Array Oper} {rest : List Oper} {o : Oper} {a : Act} {Q : Exit → Act → World → Prop} (hgd : o.guard = none) (s x : Operand) (hT : EltT P T E k bytes) (hby : bytes ≤ 10000)
    (ho : o.op = .call { callee := .builtin .append, args := #[s, x], argTypes := #[T, T] }) (hty : o.type = T) (base : Nat) (v : Value) (l : List α) (p : Option Addr) (m c : Nat) (l2 : List α) (hs : a.eval s = v) (hx : a.eval x = .slice p m c) (hm : m = l2.length)
    (hk : ∀ x ∈ l ++ l2, (enc x).length = k) (hone : ∀ x ∈ l2, ∀ u ∈ enc x, u.oneCell' = true) (hown : OwnR w base E k enc v l) (hb : RowAt w p k enc l2)
    (hl : l.length + l2.length ≤ 1000000) (hbase : base ≤ w.heap.size) (h : ∀ q m' d w', OwnR w' base E k enc (.slice q m' d) (l ++ l2) → Below base w w' → Grow w w' v (.slice q m' d) → wpList P ops Q rest (a.put o.dst (.slice q m' d)) w') :
    wpList P ops Q (o :: rest) a w := by
  subst hm
  obtain ⟨v', w', hr, ho2, hbl, hg⟩ := ownR_append (c := c) hT (fun x hx => hk x (List.mem_append_right _ hx)) hone hown hb hl hby hbase
  obtain ⟨q, d, rfl, _, _⟩ := ho2.form hk
  exact wpList_append_run hgd s x T T ho v _ _ w' hs hx (by rw [← hr, hty]) (h _ _ _ w' ho2 hbl hg)
theorem wp_appR {o : Oper} {a : Act} {K : Act → World → Prop} {Q : Exit → Act → World → Prop} (s x : Operand) (hT : EltT P T E k bytes) (hby : bytes ≤ 10000)
    (ho : o.op = .call { callee := .builtin .append, args := #[s, x], argTypes := #[T, T] }) (hty : o.type = T) (base : Nat) (v : Value) (l : List α) (p : Option Addr) (m c : Nat) (l2 : List α) (hs : a.eval s = v) (hx : a.eval x = .slice p m c) (hm : m = l2.length)
    (hk : ∀ x ∈ l ++ l2, (enc x).length = k) (hone : ∀ x ∈ l2, ∀ u ∈ enc x, u.oneCell' = true) (hown : OwnR w base E k enc v l) (hb : RowAt w p k enc l2)
    (hl : l.length + l2.length ≤ 1000000) (hbase : base ≤ w.heap.size) (h : ∀ q m' d w', OwnR w' base E k enc (.slice q m' d) (l ++ l2) → Below base w w' → Grow w w' v (.slice q m' d) → K (a.put o.dst (.slice q m' d)) w') :
    o.wp P a w K Q := by
  subst hm
  obtain ⟨v', w', hr, ho2, hbl, hg⟩ := ownR_append (c := c) hT (fun x hx => hk x (List.mem_append_right _ hx)) hone hown hb hl hby hbase
  obtain ⟨q, d, rfl, _, _⟩ := ho2.form hk
  exact wp_append_run s x T T ho v _ _ w' hs hx (by rw [← hr, hty]) (h _ _ _ w' ho2 hbl hg)
end
end
/-- a literal of one element: its row -/
theorem fill_row {ii : TypeInfo} {zz : Value} {k : Nat} (h1 : ii.size = k) (hk : 0 < k) (D : Array Value) (hD : D.size = k) : Instr.fill (fun i => some (i * ii.size, ii.size)) ((Array.range (1 * ii.size)).map (zz.cells[· % zz.cells.size]!)) [(0, .agg D)] = some D := by
  rw [h1]
  have := Go.Great.fill_whole hk [.agg D] ((Array.range (1 * k)).map (zz.cells[· % zz.cells.size]!)) (fun v hv => by rw [List.mem_singleton.1 hv]; exact hD) (by rw [Array.size_map, Array.size_range]; simp)
  simpa [Value.cells] using this

end Go.Proofs.YtmifpokafaiebaaDoor
