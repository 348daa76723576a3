/- append onto a row of the call's own, from whatever source: one law, and its words for bytes. -/
import Derived.Test.YtmifpokafaiebaaDoorCatG
import Derived.Laws.OwnMore
namespace Go.Proofs.YtmifpokafaiebaaDoor
open Go.RowKit
set_option linter.unusedVariables false
set_option maxRecDepth 100000

theorem run_append_src {P : Program} (w : World) (base : Nat) (t tx ty e : TypeId) (i : TypeInfo) (z : Value) (size bytes : Nat) (ht : P.underlying t = some (.slice e)) (hi : P.info? e = some i) (hz : i.zero = some z)
    (hsize : i.size = size) (hby : i.bytes = bytes) (hzs : z.cells.size = size) (v : Value) (n : Nat) (xs : List Value) (hown : w.ownsRow base e size v n xs)
    (x : Value) (m : Nat) (news : List Value) (hs : Src P size tx x m news w) (h63 : n + m ≤ 4294967296) (hbytes : (n + m) * bytes ≤ 140737488355328) (hbase : base ≤ w.heap.size) :
    ∃ v' w', (Builtin.append_ #[t, tx] ty #[v, x]).run P w = .ok v' w' ∧ w'.ownsRow base e size v' (n + m) (xs ++ news) ∧ w.grownBy w' v.ownBlock ∧ ∀ k, v'.ownBlock = some k → v.ownBlock = some k ∨ w.heap.size ≤ k := by
  subst hsize
  subst hby
  have hlen : (xs ++ news).length = (n + m) * i.size := by rw [List.length_append, hown.1, hs.newsLen, Nat.add_mul]
  have grown : ∀ (old : Nat), ∀ (row : Option Nat),
      (w.drew.alloc (.cells ((xs ++ news).toArray ++ Builtin.zeroCells z.cells (grownCap w (n + m) old e - (n + m))) e)).ownsRow base e i.size
        (.slice (some ⟨w.heap.size, 0, none⟩) (n + m) (grownCap w (n + m) old e)) (n + m) (xs ++ news) ∧
      w.grownBy (w.drew.alloc (.cells ((xs ++ news).toArray ++ Builtin.zeroCells z.cells (grownCap w (n + m) old e - (n + m))) e)) row := by
    intro old row
    have hge := grownCap_ge w (n + m) old e
    have hcm : grownCap w (n + m) old e ≤ maxLen := grownCap_le_maxLen w (n + m) old e (by unfold maxLen; omega)
    refine ⟨⟨hlen, .inr ⟨w.heap.size, _, _, rfl, hbase, heap_alloc_new w.drew _, hge, hcm, ?_, ?_⟩⟩, ⟨rfl, rfl, rfl, by simp, fun k hk _ => heap_alloc_old w.drew _ k hk⟩⟩
    · simp only [Array.size_append, List.size_toArray, size_zeroCells, hzs, hlen, ← Nat.add_mul]
      congr 1
      omega
    · simp only [Array.toList_append]
      rw [← hlen]
      exact List.take_left
  rcases hown.2 with ⟨rfl, rfl⟩ | ⟨g, cap, cur, rfl, hbg, hg, hnc, hcm, hcs, htake⟩
  · have hx : xs = [] := List.eq_nil_of_length_eq_zero (by simpa using hown.1)
    subst hx
    by_cases hm : m = 0
    · subst hm
      have hn : news = [] := List.eq_nil_of_length_eq_zero (by simpa using hs.newsLen)
      subst hn
      refine ⟨.slice none 0 0, w, ?_, World.ownsRow_nil w base e i.size, ⟨rfl, rfl, rfl, Nat.le_refl _, fun _ _ _ => rfl⟩, fun k hk => .inl hk⟩
      rcases hs.kind with ⟨e', hk⟩ | hk <;> simp [Builtin.append_, run_underlying ht, run_underlying hk, sizeOf, typeInfo, hi, hs.len, hs.cells]
    · have hr := run_append_grow_src (P := P) w t tx ty e i z ht hi hz none 0 0 [] (run_firstCells_none w.drew i.size 0 0 0) x m news hs (by omega) (by omega) (growslice_fits (by omega) hbytes)
      have hgr := grown 0 (Value.ownBlock (.slice none 0 0))
      exact ⟨_, _, hr, hgr.1, hgr.2, fun k hk => .inr (by injection hk with hk; exact hk ▸ Nat.le_refl _)⟩
  · by_cases hroom : n + m ≤ cap
    · have hfit : n * i.size + news.length ≤ cur.toList.length := by rw [hs.newsLen, Array.length_toList, hcs, ← Nat.add_mul]; exact Nat.mul_le_mul_right _ hroom
      have hg' : w.heap[g]? = some (.cells cur.toList.toArray e (0, 0)) := by simpa using hg
      have hr := run_append_room_src (P := P) w t tx ty e i ht hi g 0 n cap x m news hs hroom (fun j hj => by
        obtain ⟨v, hv⟩ := row_cell hg' (i := 0 + n * i.size + j) (by omega)
        rw [hv]; rfl) (fun j _ => free_row hg _)
      rw [Nat.zero_add] at hr
      have hh := heap_setCells_row g e news (n * i.size) cur.toList w hg' hfit
      have hc := chg_setCells g news (n * i.size) w
      refine ⟨_, _, hr, ⟨hlen, .inr ⟨g, cap, _, rfl, hbg, hh, hroom, hcm, ?_, ?_⟩⟩, ⟨hc.os, hc.tape, hc.output, hc.size, fun k hk hne => hc.block k hk (fun e => hne (by subst e; rfl))⟩, fun k hk => .inl hk⟩
      · simp only [List.size_toArray, splice, List.length_append, List.length_take, List.length_drop, Array.length_toList] at *
        omega
      · unfold splice
        rw [htake, ← hlen]
        first | exact List.take_left | (rw [← List.append_assoc]; exact List.take_left)
    · have holds : ∀ j u, xs[j]? = some u → w.cell? ((⟨g, 0, none⟩ : Addr).add j) = some u := hown.cells (g := g) rfl
      have hr := run_append_grow_src (P := P) w t tx ty e i z ht hi hz (some ⟨g, 0, none⟩) n cap xs (run_firstCells_some w.drew i.size n ⟨g, 0, none⟩ n cap xs hown.1 (by simpa using holds)) x m news hs (by omega) (by omega) (growslice_fits (by omega) hbytes)
      have hgr := grown cap (Value.ownBlock (.slice (some ⟨g, 0, none⟩) n cap))
      exact ⟨_, _, hr, hgr.1, hgr.2, fun k hk => .inr (by injection hk with hk; exact hk ▸ Nat.le_refl _)⟩

/-- from v in w to v' in w': new blocks, and v's own block alone -/
structure Grow (w w' : World) (v v' : Value) : Prop where
  grown : w.grownBy w' v.ownBlock
  own : ∀ k, v'.ownBlock = some k → v.ownBlock = some k ∨ w.heap.size ≤ k
theorem Grow.refl (w : World) (v : Value) : Grow w w v v := ⟨⟨rfl, rfl, rfl, Nat.le_refl _, fun _ _ _ => rfl⟩, fun _ h => .inl h⟩
theorem Grow.trans {w w1 w2 : World} {v v1 v2 : Value} (h : Grow w w1 v v1) (k : Grow w1 w2 v1 v2) : Grow w w2 v v2 :=
  ⟨⟨k.grown.os.trans h.grown.os, k.grown.tape.trans h.grown.tape, k.grown.output.trans h.grown.output, Nat.le_trans h.grown.size k.grown.size, fun i hi hn =>
    (k.grown.block i (Nat.lt_of_lt_of_le hi h.grown.size) (fun e => by
      rcases h.own i e.symm with h1 | h1
      · exact hn h1.symm
      · omega)).trans (h.grown.block i hi hn)⟩,
   fun i hi => by
    rcases k.own i hi with h1 | h1
    · exact h.own i h1
    · exact .inr (Nat.le_trans h.grown.size h1)⟩
theorem Grow.up {w w1 w2 : World} {v v2 : Value} (h : Up w w1) (k : Grow w1 w2 v v2) : Grow w w2 v v2 :=
  ⟨⟨k.grown.os.trans h.os, k.grown.tape.trans h.tape, k.grown.output.trans h.output, Nat.le_trans h.size k.grown.size, fun i hi hn => (k.grown.block i (Nat.lt_of_lt_of_le hi h.size) hn).trans (h.block i hi)⟩,
   fun i hi => (k.own i hi).imp id (fun h1 => Nat.le_trans h.size h1)⟩
theorem Grow.of_up {w w1 : World} (h : Up w w1) (v : Value) : Grow w w1 v v := (Grow.refl w1 v).up h
theorem Grow.block {w w' : World} {v v' : Value} (h : Grow w w' v v') {b : Nat} (hb : b < w.heap.size) (hn : v.ownBlock ≠ some b) : w'.heap[b]? = w.heap[b]? := h.grown.block b hb (fun e => hn e.symm)

/-! ### bytes -/
/-- v is a slice of bytes of the call's own (its block is base or later), that holds l -/
def Own (w : World) (base : Nat) (v : Value) (l : List UInt8) : Prop := w.ownsRow base 5 1 v l.length (u8s l)

theorem Own.nil (w : World) (base : Nat) : Own w base (.slice none 0 0) [] := World.ownsRow_nil w base _ 1

theorem grown_below {w w' : World} {base : Nat} {row : Option Nat} (h : w.grownBy w' row) (hb : base ≤ w.heap.size) (hr : ∀ g, row = some g → base ≤ g) : Below base w w' :=
  ⟨h.os, h.tape, h.output, h.size, fun k hk => h.block k (by omega) (fun e => by have := hr k e.symm; omega)⟩

theorem Own.form {w : World} {base : Nat} {v : Value} {l : List UInt8} (h : Own w base v l) : ∃ p c, v = .slice p l.length c ∧ l.length ≤ c ∧ c ≤ maxLen ∧ SB w p l := by
  rcases h.2 with ⟨rfl, hn⟩ | ⟨g, cap, cur, rfl, hbg, hg, hnc, hcm, hcs, htake⟩
  · have : l = [] := List.eq_nil_of_length_eq_zero hn
    subst this
    exact ⟨none, 0, rfl, Nat.le_refl _, by unfold maxLen; omega, fun h => absurd rfl h⟩
  · refine ⟨_, cap, rfl, hnc, hcm, fun _ => ⟨g, 0, rfl, fun i hi => ?_⟩⟩
    have := h.cells (g := g) rfl i (.int .u8 (l[i].toNat : Nat)) (by simp [u8s, hi])
    have e : (Addr.add ⟨g, 0, none⟩ i) = ⟨g, 0 + i, none⟩ := by simp [Addr.add] <;> exact fun h => h.symm
    rwa [e] at this
theorem Own.form2 {w : World} {base : Nat} {v : Value} {l : List UInt8} (h : Own w base v l) (hne : l ≠ []) : ∃ g c, v = .slice (some ⟨g, 0, none⟩) l.length c ∧ l.length ≤ c ∧ c ≤ maxLen ∧ base ≤ g ∧ Bs w g 0 l := by
  have h' := h
  obtain ⟨p, c, rfl, h1, h2, h3⟩ := h.form
  rcases h'.2 with ⟨_, hn⟩ | ⟨g, cap, cur, hv, hbg, _⟩
  · exact absurd (List.eq_nil_of_length_eq_zero hn) hne
  · injection hv with hp _ hc
    subst hp
    obtain ⟨b, o, e, hB⟩ := h3 hne
    injection e with e
    injection e with e1 e2
    subst e1 e2
    exact ⟨g, c, rfl, h1, h2, hbg, hB⟩
theorem Own.block {w : World} {base : Nat} {v : Value} {l : List UInt8} (h : Own w base v l) : ∀ g, v.ownBlock = some g → base ≤ g := fun g hg => (World.ownsRow.lt h g hg).1
theorem Own.less {w : World} {base base' : Nat} {v : Value} {l : List UInt8} (h : Own w base v l) (hb : base' ≤ base) : Own w base' v l := by
  refine ⟨h.1, ?_⟩
  rcases h.2 with h | ⟨g, cap, cur, rfl, hbg, h2⟩
  · exact .inl h
  · exact .inr ⟨g, cap, cur, rfl, by omega, h2⟩
theorem Own.up {w w' : World} {base : Nat} {v : Value} {l : List UInt8} (h : Own w base v l) (hu : Up w w') : Own w' base v l := by
  refine ⟨h.1, ?_⟩
  rcases h.2 with h | ⟨g, cap, cur, rfl, hbg, hg, h2⟩
  · exact .inl h
  · exact .inr ⟨g, cap, cur, rfl, hbg, (hu.block g (lt_of_block hg)).trans hg, h2⟩

theorem srcSlice {w : World} {p : Option Addr} {l : List UInt8} (hb : SB w p l) (c : Nat) : Src Tryd.prog 1 27 (.slice p l.length c) l.length (u8s l) w := by
  cases l with
  | nil =>
    cases p with
    | none => exact Src.ofNil w rfl c
    | some a => exact Src.ofSlice w rfl a 0 c [] rfl (fun j u h => by cases h) (fun _ h => by cases h)
  | cons x xs =>
    obtain ⟨b, o, rfl, h⟩ := hb (by simp)
    exact Src.ofSlice w rfl _ _ c _ (by rw [u8s_length, Nat.mul_one]) h.src (u8s_one _)

/-- append(v, bytes...) -/
theorem own_append (w : World) (base : Nat) (v : Value) (l : List UInt8) (p : Option Addr) (c : Nat) (l2 : List UInt8) (hown : Own w base v l) (hb : SB w p l2) (hl : l.length + l2.length ≤ 4294967296) (hbase : base ≤ w.heap.size) :
    ∃ v' w', Sem.run Tryd.prog (Builtin.append_ #[27, 27] 27 #[v, .slice p l2.length c]) w = .ok v' w' ∧ Own w' base v' (l ++ l2) ∧ Below base w w' ∧ Grow w w' v v' := by
  obtain ⟨i, z, hi, hz, h1, h2, h3⟩ : ∃ i z, Tryd.prog.info? 5 = some i ∧ i.zero = some z ∧ i.size = 1 ∧ i.bytes = 1 ∧ z.cells.size = 1 := ⟨_, _, rfl, rfl, rfl, rfl, rfl⟩
  obtain ⟨v', w', hr, ho, hg, hgo⟩ := run_append_src (P := Tryd.prog) w base 27 27 27 5 i z 1 1 rfl hi hz h1 h2 h3 v l.length (u8s l) hown _ l2.length (u8s l2) (srcSlice hb c) hl (by omega) hbase
  refine ⟨v', w', hr, ?_, grown_below hg hbase hown.block, ⟨hg, hgo⟩⟩
  unfold Own
  rw [List.length_append, show u8s (l ++ l2) = u8s l ++ u8s l2 by simp [u8s]]
  exact ho

/-- append(v, c) : the one byte lies in a block of its own -/
theorem own_append1 (w : World) (base : Nat) (v : Value) (l : List UInt8) (n : Nat) (hn : n < 256) (hown : Own w base v l) (hl : l.length ≤ 4294967295) (hbase : base ≤ w.heap.size) :
    ∃ v' w', Sem.run Tryd.prog (Builtin.append_ #[27, 27] 27 #[v, .slice (some ⟨w.heap.size, 0, none⟩) 1 1]) (w.alloc (.cells #[.int .u8 (n : Nat)] 5 (0, 0))) = .ok v' w' ∧ Own w' base v' (l ++ [UInt8.ofNat n]) ∧ Below base w w' ∧ Grow w w' v v' := by
  obtain ⟨W, hW⟩ : ∃ W, W = w.alloc (.cells #[.int .u8 (n : Nat)] 5 (0, 0)) := ⟨_, rfl⟩
  have hu : Up w W := by rw [hW]; exact (Up.refl w).alloc _
  have hsb : SB W (some ⟨w.heap.size, 0, none⟩) [UInt8.ofNat n] := fun _ => ⟨_, _, rfl, fun i hi => by
    have : i = 0 := by simpa using hi
    subst this
    rw [cell_of_row W w.heap.size 0 #[.int .u8 (n : Nat)] 5 (0, 0) (by rw [hW]; exact heap_new rfl)]
    simp [UInt8.toNat_ofNat', Nat.mod_eq_of_lt hn]⟩
  obtain ⟨v', w', hr, ho, hb, hg⟩ := own_append W base v l _ 1 [UInt8.ofNat n] (hown.up hu) hsb (by simp; omega) (Nat.le_trans hbase hu.size)
  rw [← hW]
  exact ⟨v', w', hr, ho, (hu.mono hbase).trans hb, hg.up hu⟩

theorem Own.empty (w : World) : Own (w.alloc (.cells #[] 5 (0, 0))) w.heap.size (.slice (some ⟨w.heap.size, 0, none⟩) 0 0) [] :=
  World.ownsRow_made w #[] 0 (Nat.le_refl _) (by unfold maxLen; omega) rfl

theorem SB.up {w w' : World} {p : Option Addr} {l : List UInt8} (h : SB w p l) (hu : Up w w') : SB w' p l := h.kept fun b hb => hu.block b hb
theorem SB.of_digest {w : World} {b : Nat} {l : List UInt8} {t : TypeId} (h : w.heap[b]? = some (.cells (u8s l).toArray t (0, 0))) : SB w (some ⟨b, 0, none⟩) l :=
  fun _ => ⟨_, _, rfl, Bs.of_row (l := []) (r := l) h (List.prefix_refl _) rfl⟩

/-- append(v, s...) for a string -/
theorem own_appendS (w : World) (base : Nat) (v : Value) (l : List UInt8) (s : ByteArray) (hown : Own w base v l) (hl : l.length + s.size ≤ 4294967296) (hbase : base ≤ w.heap.size) :
    ∃ v' w', Sem.run Tryd.prog (Builtin.append_ #[27, 9] 27 #[v, .string s]) w = .ok v' w' ∧ Own w' base v' (l ++ s.data.toList) ∧ Below base w w' ∧ Grow w w' v v' := by
  obtain ⟨i, z, hi, hz, h1, h2, h3⟩ : ∃ i z, Tryd.prog.info? 5 = some i ∧ i.zero = some z ∧ i.size = 1 ∧ i.bytes = 1 ∧ z.cells.size = 1 := ⟨_, _, rfl, rfl, rfl, rfl, rfl⟩
  obtain ⟨v', w', hr, ho, hg, hgo⟩ := run_append_src (P := Tryd.prog) w base 27 9 27 5 i z 1 1 rfl hi hz h1 h2 h3 v l.length (u8s l) hown (.string s) s.size (byteCells s) (Src.ofString w (tx := 9) rfl s) hl (by omega) hbase
  refine ⟨v', w', hr, ?_, grown_below hg hbase hown.block, ⟨hg, hgo⟩⟩
  unfold Own
  have e : s.data.toList.length = s.size := by rw [Array.length_toList]; rfl
  rw [List.length_append, e, show u8s (l ++ s.data.toList) = u8s l ++ byteCells s by simp [u8s, byteCells]]
  exact ho

/-! ### the laws at an operation -/
theorem wp_append_run {P : Program} {w : World} {o : Oper} {a : Act} {K : Act → World → Prop} {Q : Exit → Act → World → Prop} (s x : Operand) (t tx : TypeId)
    (ho : o.op = .call { callee := .builtin .append, args := #[s, x], argTypes := #[t, tx] }) (vs vx v : Value) (W5 : World) (hs : a.eval s = vs) (hx : a.eval x = vx)
    (hrun : (Builtin.append_ #[t, tx] o.type #[vs, vx]).run P w = .ok v W5) (h : K (a.put o.dst v) W5) : o.wp P a w K Q := by
  unfold Oper.wp
  simp [execOp, ho, resolve, invoke, builtin, hs, hx, hrun, Result.andThen]
  exact h

theorem wp_app {w : World} {o : Oper} {a : Act} {K : Act → World → Prop} {Q : Exit → Act → World → Prop} (s x : Operand)
    (ho : o.op = .call { callee := .builtin .append, args := #[s, x], argTypes := #[27, 27] }) (hty : o.type = 27)
    (base : Nat) (v : Value) (l : List UInt8) (p : Option Addr) (m c : Nat) (l2 : List UInt8) (hs : a.eval s = v) (hx : a.eval x = .slice p m c) (hm : m = l2.length) (hown : Own w base v l) (hb : SB w p l2)
    (hl : l.length + l2.length ≤ 4294967296) (hbase : base ≤ w.heap.size) (h : ∀ v' w', Own w' base v' (l ++ l2) → Below base w w' → Grow w w' v v' → K (a.put o.dst v') w') : o.wp Tryd.prog a w K Q := by
  subst hm
  obtain ⟨v', w', hr, ho2, hbl, hg⟩ := own_append w base v l p c l2 hown hb hl hbase
  rw [← hty] at hr
  exact wp_append_run s x 27 27 ho v _ v' w' hs hx (by rw [← hr, hty]) (h v' w' ho2 hbl hg)

theorem wp_appS {w : World} {o : Oper} {a : Act} {K : Act → World → Prop} {Q : Exit → Act → World → Prop} (s x : Operand)
    (ho : o.op = .call { callee := .builtin .append, args := #[s, x], argTypes := #[27, 9] }) (hty : o.type = 27)
    (base : Nat) (v : Value) (l : List UInt8) (str : ByteArray) (hs : a.eval s = v) (hx : a.eval x = .string str) (hown : Own w base v l)
    (hl : l.length + str.size ≤ 4294967296) (hbase : base ≤ w.heap.size) (h : ∀ v' w', Own w' base v' (l ++ str.data.toList) → Below base w w' → Grow w w' v v' → K (a.put o.dst v') w') : o.wp Tryd.prog a w K Q := by
  obtain ⟨v', w', hr, ho2, hbl, hg⟩ := own_appendS w base v l str hown hl hbase
  rw [← hty] at hr
  exact wp_append_run s x 27 9 ho v _ v' w' hs hx (by rw [← hr, hty]) (h v' w' ho2 hbl hg)

theorem wp_app1 {w : World} {o : Oper} {a : Act} {K : Act → World → Prop} {Q : Exit → Act → World → Prop} (s x : Operand)
    (ho : o.op = .call { callee := .builtin .append, args := #[s, x], argTypes := #[27, 27] }) (hty : o.type = 27)
    (base : Nat) (v : Value) (l : List UInt8) (z : Int) (n : Nat) (hs : a.eval s = v) (hx : a.eval x = .slice (some ⟨w.heap.size, 0, none⟩) 1 1) (hz : z = (n : Nat)) (hn : n < 256) (hown : Own w base v l)
    (hl : l.length ≤ 4294967295) (hbase : base ≤ w.heap.size) (h : ∀ v' w', Own w' base v' (l ++ [UInt8.ofNat n]) → Below base w w' → Grow w w' v v' → K (a.put o.dst v') w') :
    o.wp Tryd.prog a (w.alloc (.cells #[.int .u8 z] 5 (0, 0))) K Q := by
  subst hz
  obtain ⟨v', w', hr, ho2, hbl, hg⟩ := own_append1 w base v l n hn hown hl hbase
  exact wp_append_run s x 27 27 ho v _ v' w' hs hx (by rw [← hr, hty]) (h v' w' ho2 hbl hg)

theorem wpList_app {w : World} {ops : Array Oper} {rest : List Oper} {o : Oper} {a : Act} {Q : Exit → Act → World → Prop} (hgd : o.guard = none) (s x : Operand)
    (ho : o.op = .call { callee := .builtin .append, args := #[s, x], argTypes := #[27, 27] }) (hty : o.type = 27)
    (base : Nat) (v : Value) (l : List UInt8) (p : Option Addr) (m c : Nat) (l2 : List UInt8) (hs : a.eval s = v) (hx : a.eval x = .slice p m c) (hm : m = l2.length) (hown : Own w base v l) (hb : SB w p l2)
    (hl : l.length + l2.length ≤ 4294967296) (hbase : base ≤ w.heap.size) (h : ∀ v' w', Own w' base v' (l ++ l2) → Below base w w' → wpList Tryd.prog ops Q rest (a.put o.dst v') w') : wpList Tryd.prog ops Q (o :: rest) a w := by
  subst hm
  obtain ⟨v', w', hr, ho2, hbl, hg⟩ := own_append w base v l p c l2 hown hb hl hbase
  rw [← hty] at hr
  exact wpList_append_run hgd s x 27 27 ho v _ v' w' hs hx (by rw [← hr, hty]) (h v' w' ho2 hbl)

theorem wpList_app1 {w : World} {ops : Array Oper} {rest : List Oper} {o : Oper} {a : Act} {Q : Exit → Act → World → Prop} (hgd : o.guard = none) (s x : Operand)
    (ho : o.op = .call { callee := .builtin .append, args := #[s, x], argTypes := #[27, 27] }) (hty : o.type = 27)
    (base : Nat) (v : Value) (l : List UInt8) (z : Int) (n : Nat) (hs : a.eval s = v) (hx : a.eval x = .slice (some ⟨w.heap.size, 0, none⟩) 1 1) (hz : z = (n : Nat)) (hn : n < 256) (hown : Own w base v l)
    (hl : l.length ≤ 4294967295) (hbase : base ≤ w.heap.size) (h : ∀ v' w', Own w' base v' (l ++ [UInt8.ofNat n]) → Below base w w' → Grow w w' v v' → wpList Tryd.prog ops Q rest (a.put o.dst v') w') :
    wpList Tryd.prog ops Q (o :: rest) a (w.alloc (.cells #[.int .u8 z] 5 (0, 0))) := by
  subst hz
  obtain ⟨v', w', hr, ho2, hbl, hg⟩ := own_append1 w base v l n hn hown hl hbase
  exact wpList_append_run hgd s x 27 27 ho v _ v' w' hs hx (by rw [← hr, hty]) (h v' w' ho2 hbl hg)

end Go.Proofs.YtmifpokafaiebaaDoor
