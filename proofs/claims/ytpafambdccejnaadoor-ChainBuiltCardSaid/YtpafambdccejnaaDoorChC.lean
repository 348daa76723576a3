/- ROWS OF LINKS: what append does with them. bytes.Clone, bytes.Equal, chain.Add. chain.Add. chain.Add, where it adds. the reference's Add. the reference's Add, where it adds. -/
import Derived.Test.YtpafambdccejnaaDoorChB
import Derived.Great.BuildSlice
import Derived.Deep.AppendSrc
import Derived.WalkSpells
namespace Go.Proofs.YtpafambdccejnaaDoor
open Go.RowKit
set_option linter.unusedVariables false

theorem flatten_get35 {α : Type} : ∀ (css : List (List α)) (i j : Nat), (∀ c ∈ css, c.length = 35) → (hi : i < css.length) → j < 35 → css.flatten[i * 35 + j]? = css[i][j]?
  | c :: cs, 0, j, h, hi, hj => by
    rw [List.flatten_cons, Nat.zero_mul, Nat.zero_add, List.getElem?_append_left (by rw [h c (by simp)]; exact hj)]; rfl
  | c :: cs, i + 1, j, h, hi, hj => by
    have hc := h c (by simp)
    rw [List.flatten_cons, List.getElem?_append_right (by omega), hc, show (i + 1) * 35 + j - 35 = i * 35 + j by omega]
    exact flatten_get35 cs i j (fun x hx => h x (by simp [hx])) (by simpa using hi) hj
theorem flatten_len35 {α : Type} : ∀ (css : List (List α)), (∀ c ∈ css, c.length = 35) → css.flatten.length = css.length * 35
  | [], _ => rfl
  | c :: cs, h => by
    rw [List.flatten_cons, List.length_append, h c (by simp), flatten_len35 cs (fun x hx => h x (by simp [hx])), List.length_cons]; omega

/-- the cells of links, one list for each -/
structure Flat (w : World) (ls : List Lk) (css : List (List Value)) : Prop where
  len : css.length = ls.length
  at' : ∀ i (h : i < ls.length) (h2 : i < css.length), LkV w css[i] ls[i]
theorem Flat.up {w w' : World} {ls : List Lk} {css : List (List Value)} (h : Flat w ls css) (hu : Up w w') : Flat w' ls css := ⟨h.len, fun i h1 h2 => (h.at' i h1 h2).up hu⟩
theorem Flat.all {w : World} {ls : List Lk} {css : List (List Value)} (hp : ∀ x ∈ ls, x.prev.length = 32) (h : Flat w ls css) : ∀ c ∈ css, c.length = 35 := by
  intro c hc
  obtain ⟨i, hi, rfl⟩ := List.getElem_of_mem hc
  have h1 : i < ls.length := by rw [← h.len]; exact hi
  exact (h.at' i h1 hi).len (hp _ (List.getElem_mem h1))
theorem Flat.one {w : World} {ls : List Lk} {css : List (List Value)} (h : Flat w ls css) : ∀ v ∈ css.flatten, v.oneCell' = true := by
  intro v hv
  obtain ⟨c, hc, hv⟩ := List.mem_flatten.1 hv
  obtain ⟨i, hi, rfl⟩ := List.getElem_of_mem hc
  exact (h.at' i (by rw [← h.len]; exact hi) hi).one v hv
theorem Flat.snoc {w : World} {ls : List Lk} {css : List (List Value)} (h : Flat w ls css) {x : Lk} {c : List Value} (hc : LkV w c x) : Flat w (ls ++ [x]) (css ++ [c]) := by
  refine ⟨by simp [h.len], fun i h1 h2 => ?_⟩
  rcases Nat.lt_or_ge i ls.length with hi | hi
  · rw [List.getElem_append_left (by rw [h.len]; exact hi), List.getElem_append_left hi]
    exact h.at' i hi (by rw [h.len]; exact hi)
  · have : i = ls.length := by simp at h1; omega
    subst this
    have e1 : (css ++ [c])[ls.length] = c := by rw [List.getElem_append_right (by rw [h.len]; exact Nat.le_refl _)]; simp [h.len]
    have e2 : (ls ++ [x])[ls.length] = x := by rw [List.getElem_append_right (Nat.le_refl _)]; simp
    rw [e1, e2]; exact hc

theorem Links.flat {w : World} {p : Option Addr} {ls : List Lk} (hp : ∀ x ∈ ls, x.prev.length = 32) (h : Links w p ls) : ∃ css, Flat w ls css ∧ (ls ≠ [] → ∃ b o, p = some ⟨b, o, none⟩ ∧ ∀ j u, css.flatten[j]? = some u → w.cell? ⟨b, o + j, none⟩ = some u) := by
  obtain ⟨D, hD⟩ := h.fn
  have hF : Flat w ls ((List.range ls.length).map fun i => (D i).toList) := by
    refine ⟨by simp, fun i h1 h2 => ?_⟩
    obtain ⟨b, o, _, h3⟩ := hD (by rintro rfl; simp at h1)
    simp only [List.getElem_map, List.getElem_range]
    exact (h3 i h1).1
  refine ⟨_, hF, fun hne => ?_⟩
  obtain ⟨b, o, e, h3⟩ := hD hne
  refine ⟨b, o, e, fun j u hu => ?_⟩
  have h35 := hF.all hp
  have hlt := (List.getElem?_eq_some_iff.1 hu).1
  rw [flatten_len35 _ h35] at hlt
  have hi : j / 35 < ls.length := by
    simp at hlt
    omega
  have hj : j % 35 < 35 := Nat.mod_lt _ (by omega)
  have := flatten_get35 _ (j / 35) (j % 35) h35 (by simpa using hi) hj
  rw [show j / 35 * 35 + j % 35 = j by omega, hu] at this
  simp only [List.getElem_map, List.getElem_range] at this
  have h4 := (h3 (j / 35) hi).2 (j % 35) u this.symm
  rw [show o + j / 35 * 35 + j % 35 = o + j by omega] at h4
  exact h4

theorem links_of_flat {w : World} {g o : Nat} {ls : List Lk} {css : List (List Value)} (hp : ∀ x ∈ ls, x.prev.length = 32) (hF : Flat w ls css) (hc : ∀ j u, css.flatten[j]? = some u → w.cell? ⟨g, o + j, none⟩ = some u) : Links w (some ⟨g, o, none⟩) ls := fun hne => by
  refine ⟨g, o, rfl, fun i hi => ?_⟩
  have h2 : i < css.length := by rw [hF.len]; exact hi
  refine ⟨css[i], hF.at' i hi h2, fun j u hu => ?_⟩
  have h35 := hF.all hp
  have hj : j < 35 := by rw [← h35 _ (List.getElem_mem h2)]; exact (List.getElem?_eq_some_iff.1 hu).1
  have := hc (i * 35 + j) u (by rw [flatten_get35 css i j h35 h2 hj]; exact hu)
  rw [show o + i * 35 + j = o + (i * 35 + j) by omega]
  exact this

/-- links as the source of an append -/
theorem Links.src {w : World} {p : Option Addr} {ls : List Lk} (hp : ∀ x ∈ ls, x.prev.length = 32) (h : Links w p ls) (c : Nat) : ∃ css, Flat w ls css ∧ Src Tryd.prog 35 22 (.slice p ls.length c) ls.length css.flatten w := by
  obtain ⟨css, hF, hc⟩ := h.flat hp
  refine ⟨css, hF, ?_⟩
  have hlen := flatten_len35 css (hF.all hp)
  by_cases hne : ls = []
  · subst hne
    have : css = [] := List.eq_nil_of_length_eq_zero (by have := hF.len; simpa using this)
    subst this
    cases p with
    | none => exact Src.ofNil w rfl c
    | some a => exact Src.ofSlice w rfl a 0 c [] rfl (fun j u h => by cases h) (fun _ h => by cases h)
  · obtain ⟨b, o, rfl, hc2⟩ := hc hne
    refine Src.ofSlice w rfl _ _ c _ (by rw [hlen, hF.len]) (fun j u hu => ?_) hF.one
    have e : (Addr.add ⟨b, o, none⟩ j) = ⟨b, o + j, none⟩ := Addr.add_mid b o j
    rw [e]; exact hc2 j u hu

/-- a link that lies alone in a block, as the source of an append -/
theorem src_one {w : World} {g : Nat} {x : Lk} {D : Array Value} {t : TypeId} {fr : Nat × Nat} (hx : x.prev.length = 32) (hv : LkV w D.toList x) (hg : w.heap[g]? = some (.cells D t fr)) (c : Nat) : Src Tryd.prog 35 22 (.slice (some ⟨g, 0, none⟩) 1 c) 1 D.toList w := by
  refine Src.ofSlice w rfl _ 1 c _ (by rw [hv.len hx]) (fun j u hu => ?_) hv.one
  rw [Addr.add_mid, Nat.zero_add, cell_of_row w g j _ _ _ hg]
  simpa using hu

theorem infoLink : ∃ i z, Tryd.prog.info? 37 = some i ∧ i.zero = some z ∧ i.size = 35 ∧ i.bytes = 72 ∧ z.cells.size = 35 := ⟨_, _, rfl, rfl, by kernel_rfl, by kernel_rfl, by kernel_rfl⟩

/-- append(l[:n:n], x): a new block -/
theorem run_append_link (w : World) (p : Option Addr) (n : Nat) (ls : List Lk) (x : Lk) (g : Nat) (D : Array Value) (t : TypeId) (fr : Nat × Nat) (hn : n = ls.length) (hn2 : n ≤ 1000) (hp : ∀ y ∈ ls, y.prev.length = 32) (hx : x.prev.length = 32)
    (h : Links w p ls) (hv : LkV w D.toList x) (hg : w.heap[g]? = some (.cells D t fr)) :
    ∃ q c w', Sem.run Tryd.prog (Builtin.append_ #[22, 22] 22 #[.slice p n n, .slice (some ⟨g, 0, none⟩) 1 1]) w = .ok (.slice q (n + 1) c) w' ∧ Up w w' ∧ n + 1 ≤ c ∧ c ≤ maxLen ∧ Links w' q (ls ++ [x]) := by
  subst hn
  obtain ⟨i, z, hi, hz, h1, h2, h3⟩ := infoLink
  obtain ⟨css, hF, hc⟩ := h.flat hp
  have hlen := flatten_len35 css (hF.all hp)
  have hold : (Builtin.firstCells i.size ls.length (.slice p ls.length ls.length)).run Tryd.prog w.drew = .ok css.flatten.toArray w.drew := by
    rw [h1]
    by_cases hne : ls = []
    · subst hne
      have : css = [] := List.eq_nil_of_length_eq_zero (by have := hF.len; simpa using this)
      subst this
      cases p with
      | none => exact run_firstCells_none w.drew 35 0 0 0
      | some a => exact run_firstCells_some w.drew 35 0 a 0 0 [] rfl (fun j u h => by cases h)
    · obtain ⟨b, o, rfl, hc2⟩ := hc hne
      refine run_firstCells_some w.drew 35 ls.length _ ls.length ls.length _ (by rw [hlen, hF.len]) (fun j u hu => ?_)
      rw [Addr.add_mid]
      exact hc2 j u hu
  have hs := src_one hx hv hg 1
  rw [← h1] at hs
  have hr := run_append_grow_src (P := Tryd.prog) w 22 22 22 37 i z rfl hi hz p ls.length ls.length css.flatten hold _ 1 D.toList hs (by omega) (by omega) (growslice_fits (by omega) (by rw [h2]; omega))
  have hge := grownCap_ge w (ls.length + 1) ls.length 37
  have hcm : grownCap w (ls.length + 1) ls.length 37 ≤ maxLen := grownCap_le_maxLen w _ _ _ (by unfold maxLen; omega)
  refine ⟨_, _, _, hr, ((Up.refl w).drew).alloc _, hge, hcm, ?_⟩
  have hu : Up w (w.drew.alloc (.cells ((css.flatten ++ D.toList).toArray ++ Builtin.zeroCells z.cells (grownCap w (ls.length + 1) ls.length 37 - (ls.length + 1))) 37)) := ((Up.refl w).drew).alloc _
  refine links_of_flat (css := css ++ [D.toList]) (by
    intro y hy
    rcases List.mem_append.1 hy with hy | hy
    · exact hp y hy
    · rw [List.mem_singleton.1 hy]; exact hx) ((hF.snoc hv).up hu) (fun j u hu2 => ?_)
  have hh : (w.drew.alloc (.cells ((css.flatten ++ D.toList).toArray ++ Builtin.zeroCells z.cells (grownCap w (ls.length + 1) ls.length 37 - (ls.length + 1))) 37)).heap[w.heap.size]? = some _ := heap_new (w := w.drew) rfl
  rw [cell_of_row _ w.heap.size (0 + j) _ _ _ hh, Nat.zero_add]
  rw [List.flatten_append, List.flatten_singleton] at hu2
  have hjl := (List.getElem?_eq_some_iff.1 hu2).1
  rw [Array.getElem?_append_left (by simpa using hjl)]
  simpa using hu2

/-- a row of links of the call's own -/
def OwnL (w : World) (base : Nat) (v : Value) (ls : List Lk) : Prop := ∃ css, Flat w ls css ∧ w.ownsRow base 37 35 v ls.length css.flatten
theorem OwnL.links {w : World} {base : Nat} {v : Value} {ls : List Lk} (hp : ∀ x ∈ ls, x.prev.length = 32) (h : OwnL w base v ls) : ∃ p c, v = .slice p ls.length c ∧ ls.length ≤ c ∧ c ≤ maxLen ∧ Links w p ls ∧ (∀ b o, p = some ⟨b, o, none⟩ → base ≤ b ∧ b < w.heap.size) := by
  obtain ⟨css, hF, hown⟩ := h
  rcases hown.2 with ⟨rfl, hn⟩ | ⟨g, cap, cur, rfl, hbg, hg, hnc, hcm, hcs, htake⟩
  · have : ls = [] := List.eq_nil_of_length_eq_zero hn
    subst this
    exact ⟨none, 0, rfl, Nat.le_refl _, by unfold maxLen; omega, Links.nil _ _, fun b o h => by cases h⟩
  · refine ⟨_, cap, rfl, hnc, hcm, links_of_flat hp hF (fun j u hu => ?_), fun b o e => by injection e with e; injection e with e1 e2; subst e1; exact ⟨hbg, lt_of_block hg⟩⟩
    have := hown.cells (g := g) rfl j u hu
    rw [Addr.add_mid] at this
    exact this

theorem ownL_append {w : World} {base : Nat} {v : Value} {ls ls2 : List Lk} {css2 : List (List Value)} {x : Value} {m : Nat} (hm : m = ls2.length) (hlen : ls.length + m ≤ 1000) (hown : OwnL w base v ls) (hF2 : Flat w ls2 css2) (hs : Src Tryd.prog 35 22 x m css2.flatten w) (hbase : base ≤ w.heap.size)
    (hdata : ∀ w', w.grownBy w' v.ownBlock → Flat w' ls2 css2 ∧ ∀ css, Flat w ls css → Flat w' ls css) :
    ∃ v' w', Sem.run Tryd.prog (Builtin.append_ #[22, 22] 22 #[v, x]) w = .ok v' w' ∧ OwnL w' base v' (ls ++ ls2) ∧ Below base w w' ∧ Grow w w' v v' := by
  subst hm
  obtain ⟨i, z, hi, hz, h1, h2, h3⟩ := infoLink
  obtain ⟨css, hF, hown⟩ := hown
  obtain ⟨v', w', hr, ho, hg, hgo⟩ := run_append_src (P := Tryd.prog) w base 22 22 22 37 i z 35 72 rfl hi hz h1 h2 h3 v ls.length css.flatten hown x ls2.length css2.flatten hs (by omega) (by omega) hbase
  obtain ⟨hd2, hd1⟩ := hdata w' hg
  refine ⟨v', w', hr, ⟨css ++ css2, ?_, ?_⟩, grown_below hg hbase (fun g hg' => (World.ownsRow.lt hown g hg').1), ⟨hg, hgo⟩⟩
  · have hd1 := hd1 css hF
    refine ⟨by simp [hd1.len, hd2.len], fun k h4 h5 => ?_⟩
    rcases Nat.lt_or_ge k ls.length with hk | hk
    · rw [List.getElem_append_left (by rw [hd1.len]; exact hk), List.getElem_append_left hk]
      exact hd1.at' k hk (by rw [hd1.len]; exact hk)
    · have hk2 : k - ls.length < ls2.length := by simp at h4; omega
      rw [List.getElem_append_right (by rw [hd1.len]; exact hk), List.getElem_append_right hk]
      have := hd2.at' (k - ls.length) hk2 (by rw [hd2.len]; exact hk2)
      simp only [hd1.len]
      exact this
  · rw [List.length_append, List.flatten_append]; exact ho

end Go.Proofs.YtpafambdccejnaaDoor

namespace Go.Proofs.YtpafambdccejnaaDoor
open Go.RowKit
set_option linter.unusedVariables false

set_option maxRecDepth 100000 in
theorem clone_calls (p : Option Addr) (n c : Nat) (l : List UInt8) (w : World) (hn : n = l.length) (hsb : SB w p l) (hl : n ≤ 100000) :
    Calls Tryd.prog 20 #[.slice p n c] w fun e w' => ∃ p' c', e = .returned (.slice p' n c') ∧ Up w w' ∧ n ≤ c' ∧ c' ≤ maxLen ∧ SB w' p' l := by
  cases p with
  | none =>
    have hn0 : l = [] := by
      rcases Classical.em (l = []) with h1 | h1
      · exact h1
      · obtain ⟨b, o, e, _⟩ := hsb h1; cases e
    subst hn0
    subst hn
    have he : ∀ w : World, (binOp .eql 23 (.slice none 0 c) (.slice none 0 0)).run Tryd.prog w = .ok (.bool true) w := fun w => Lib.run_eql_slice_nil w _ 5 none 0 c 0 0 rfl
    clear hl hsb
    go_enter Tryd.func20, Tryd.ntmps20
    go_wp2
    go_ret
    exact ⟨none, 0, rfl, Up.refl _, Nat.le_refl _, by unfold maxLen; omega, fun h => absurd rfl h⟩
  | some a =>
    have HSB := Lib.hid hsb
    have HN := Lib.hid hn
    have HLE := Lib.hid hl
    have he : ∀ w : World, (binOp .eql 23 (.slice (some a) n c) (.slice none 0 0)).run Tryd.prog w = .ok (.bool false) w := fun w => Lib.run_eql_slice_nil w _ 5 (some a) n c 0 0 rfl
    clear hsb hn hl
    go_enter Tryd.func20, Tryd.ntmps20
    go_wp2_with (refine wpList_named ?_; intro W1 hW1; at_builtin; (have hu : Up w W1 := by (rw [hW1]; exact (Up.refl w).alloc _)); (have ho : Own W1 w.heap.size (.slice (some ⟨w.heap.size, 0, none⟩) 0 0) [] := by (rw [hW1]; exact Own.empty w)); have HU := Lib.hid hu; have HO := Lib.hid ho; clear hW1 hu ho; refine wpList_app rfl (.tmp 5) (.tmp 6) rfl rfl w.heap.size _ [] (some a) n c l rfl rfl HN.out HO.out (HSB.out.up HU.out) (by simp; have := HN.out; have := HLE.out; omega) HU.out.size ?_; intro v3 w3 o3 b3; have O3 := Lib.hid o3; have B3 := Lib.hid b3; clear o3 b3)
    obtain ⟨p3, c3, hv3, g1, g2, g3⟩ := O3.out.form
    subst hv3
    go_ret
    rw [List.nil_append] at *
    exact ⟨p3, c3, by rw [HN.out] <;> rfl, Below.trans HU.out B3.out, by rw [HN.out]; exact g1, g2, g3⟩

theorem equal_calls (p q : Option Addr) (n m c d : Nat) (l k : List UInt8) (w : World) (hn : n = l.length) (hm : m = k.length) (h1 : SB w p l) (h2 : SB w q k) :
    Calls Tryd.prog 25 #[.slice p n c, .slice q m d] w fun e w' => e = .returned (.bool (decide (l = k))) ∧ w = w' := by
  have r1 := run_text_of w p c l h1
  have r2 := run_text_of w q d k h2
  rw [← hn] at r1
  rw [← hm] at r2
  have he : ((bsOf l).toList == (bsOf k).toList) = decide (l = k) := by
    rw [ByteArray.toList_eq, ByteArray.toList_eq, bsOf_list, bsOf_list, Bool.eq_iff_iff]; simp
  have HE := Lib.hid he
  clear h1 h2 he hn hm
  go_enter Tryd.func25, Tryd.ntmps25
  go_wp2
  go_ret
  exact ⟨by rw [← HE.out] <;> rfl, rfl⟩

/-! ### Add, plain -/
def addArg (ls : List Lk) (node : Int) (l : List UInt8) : Bool := decide (node < 0 ∨ 24 ≤ node ∨ (ls ≠ [] ∧ node ≠ nd0 ls) ∨ 65536 < l.length)
def addE (ls : List Lk) (node : Int) (l : List UInt8) : Int := if chk ls = 0 then (if addArg ls node l then 1 else 0) else chk ls
def newLk (ls : List Lk) (node : Int) (l : List UInt8) : Lk := ⟨node, ls.length, hd ls, l⟩
def addL (ls : List Lk) (node : Int) (l : List UInt8) : List Lk := if addE ls node l = 0 then ls ++ [newLk ls node l] else []

theorem built_link (x : Lk) (hx : x.prev.length = 32) (p : Option Addr) (c : Nat) :
    Tryd.prog.built 37 [(0, .int .i64 x.node), (1, .int .i64 x.no), (2, .agg (u8s x.prev).toArray), (3, .slice p x.data.length c)] = some (lkCells x p c).toArray := by
  obtain ⟨node, no, prev, data⟩ := x
  simp only at hx ⊢
  match prev, hx with
  | [c0, c1, c2, c3, c4, c5, c6, c7, c8, c9, c10, c11, c12, c13, c14, c15, c16, c17, c18, c19, c20, c21, c22, c23, c24, c25, c26, c27, c28, c29, c30, c31], _ =>
    simp only [lkCells, u8s, List.map_cons, List.map_nil, List.cons_append, List.nil_append]
    generalize data.length = m
    show _ = _
    kernel_rfl

theorem fill_one (n : Nat) (D Z : Array Value) (hn : 0 < n) (hD : D.size = n) (hZ : Z.size = n) : Instr.fill (fun i => some (i * n, n)) Z [(0, .agg D)] = some D := by
  have := Go.Great.fill_whole hn [.agg D] Z (fun v hv => by rw [List.mem_singleton.1 hv]; exact hD) (by simp [hZ])
  simpa [Value.cells] using this

end Go.Proofs.YtpafambdccejnaaDoor

namespace Go.Proofs.YtpafambdccejnaaDoor
open Go.RowKit
set_option linter.unusedVariables false

theorem add_chk (p q : Option Addr) (n c m d : Nat) (node : Int) (ls : List Lk) (w : World) (hn : n = ls.length) (hf : Few ls) (h : Links w p ls) (htab : Tabs w) (hc : n ≤ c) (hcm : c ≤ maxLen) (hk : chk ls = 80) :
    Calls Tryd.prog 10 #[.slice p n c, .int .i64 node, .slice q m d] w fun e w' => e = .returned (.tuple #[.slice none 0 0, .int .i64 80]) ∧ Up w w' := by
  have HC := Lib.hid (chCheck_calls p n c ls w hn hf h htab hc hcm)
  rw [hk] at HC
  clear hn hf h htab hk
  go_enter Tryd.func10, Tryd.ntmps10
  go_wp2_with fail
  refine HC.out.mono ?_
  rintro e w1 ⟨rfl, u1⟩
  have U1 := Lib.hid u1
  clear u1
  go_wp2_with fail
  go_ret2
  exact ⟨rfl, U1.out⟩

set_option maxHeartbeats 2000000 in
theorem add_arg (p q : Option Addr) (n c m d : Nat) (node : Int) (ls : List Lk) (l : List UInt8) (w : World) (hn : n = ls.length) (hm : m = l.length) (hf : Few ls) (h : Links w p ls) (htab : Tabs w) (hc : n ≤ c) (hcm : c ≤ maxLen) (hk : chk ls = 0) (ha : addArg ls node l = true) :
    Calls Tryd.prog 10 #[.slice p n c, .int .i64 node, .slice q m d] w fun e w' => e = .returned (.tuple #[.slice none 0 0, .int .i64 1]) ∧ Up w w' := by
  have HC := Lib.hid (chCheck_calls p n c ls w hn hf h htab hc hcm)
  rw [hk] at HC
  unfold addArg at ha
  rw [decide_eq_true_iff] at ha
  by_cases h1 : node < 0
  case pos =>
    have d1 : decide (node < 0) = true := by simpa using h1
    clear hn hm hf h htab hk ha
    go_enter Tryd.func10, Tryd.ntmps10
    go_wp2_with fail
    refine HC.out.mono ?_
    rintro e w1 ⟨rfl, u1⟩
    have U1 := Lib.hid u1
    clear u1
    go_wp2_with fail
    go_ret2
    exact ⟨rfl, U1.out⟩
  have d1 : decide (node < 0) = false := by simpa using h1
  by_cases h2 : 24 ≤ node
  case pos =>
    have d2 : decide ((24 : Int) ≤ node) = true := by simpa using h2
    clear hn hm hf h htab hk ha
    go_enter Tryd.func10, Tryd.ntmps10
    go_wp2_with fail
    refine HC.out.mono ?_
    rintro e w1 ⟨rfl, u1⟩
    have U1 := Lib.hid u1
    clear u1
    go_wp2_with fail
    go_ret2
    exact ⟨rfl, U1.out⟩
  have d2 : decide ((24 : Int) ≤ node) = false := by simpa using h2
  by_cases h3 : ls = []
  · have h4 : 65536 < l.length := by
      rcases ha with h | h | h | h
      · exact absurd h h1
      · exact absurd h h2
      · exact absurd h3 h.1
      · exact h
    have hn0 : n = 0 := by rw [hn, h3]; rfl
    subst hn0
    have d3 : decide ((65536 : Int) < (m : Int)) = true := by rw [hm]; simp; omega
    clear hn hm hf h htab hk ha h3 h4
    go_enter Tryd.func10, Tryd.ntmps10
    go_wp2_with fail
    refine HC.out.mono ?_
    rintro e w1 ⟨rfl, u1⟩
    have U1 := Lib.hid u1
    clear u1
    go_wp2_with fail
    go_ret2
    exact ⟨rfl, U1.out⟩
  · obtain ⟨x, xs, rfl⟩ := List.exists_cons_of_ne_nil h3
    have hnd : nd0 (x :: xs) = x.node := rfl
    rw [hnd] at ha
    obtain ⟨b, o, rfl, hat⟩ := h (by simp)
    obtain ⟨cs, ⟨px, cx, hcs, _, _, _⟩, hrg⟩ := hat 0 (by simp)
    have hc0 : w.cell? ⟨b, o, none⟩ = some (.int .i64 x.node) := by
      have := hrg 0 (.int .i64 x.node) (by rw [hcs]; rfl)
      simpa using this
    have HC0 := Lib.hid hc0
    have hn0 : (0 : Int) < n := by rw [hn]; simp only [List.length_cons]; omega
    have hn1 : decide ((0 : Int) < n) = true := by simpa using hn0
    obtain ⟨m0, hm0⟩ : ∃ m0, m0 = x.node := ⟨_, rfl⟩
    rw [← hm0] at HC0 ha
    by_cases h4 : node = m0
    · have h5 : 65536 < l.length := by
        rcases ha with h | h | h | h
        · exact absurd h h1
        · exact absurd h h2
        · exact absurd h4 h.2
        · exact h
      have d3 : decide ((65536 : Int) < (m : Int)) = true := by rw [hm]; simp; omega
      have d4 : (node == m0) = true := by simpa using h4
      have d4' : (node != m0) = false := by simp [h4]
      clear hn hm hf h htab hk ha h3 h4 h5 hc0 hat hrg hcs hnd hm0
      go_enter Tryd.func10, Tryd.ntmps10
      go_wp2_with fail
      refine HC.out.mono ?_
      rintro e w1 ⟨rfl, u1⟩
      have U1 := Lib.hid u1
      have hc1 : w1.cell? ⟨b, o, none⟩ = some (.int .i64 m0) := (u1.below.cell (p := ⟨b, o, none⟩) (block_lt_of_cell HC0.out)).trans HC0.out
      clear u1
      go_wp2_with fail
      go_ret2
      exact ⟨rfl, U1.out⟩
    · have d4 : (node == m0) = false := by simpa using h4
      have d4' : (node != m0) = true := by simpa using h4
      clear hn hm hf h htab hk ha h3 h4 hc0 hat hrg hcs hnd hm0
      go_enter Tryd.func10, Tryd.ntmps10
      go_wp2_with fail
      refine HC.out.mono ?_
      rintro e w1 ⟨rfl, u1⟩
      have U1 := Lib.hid u1
      have hc1 : w1.cell? ⟨b, o, none⟩ = some (.int .i64 m0) := (u1.below.cell (p := ⟨b, o, none⟩) (block_lt_of_cell HC0.out)).trans HC0.out
      clear u1
      go_wp2_with fail
      go_ret2
      exact ⟨rfl, U1.out⟩

end Go.Proofs.YtpafambdccejnaaDoor

namespace Go.Proofs.YtpafambdccejnaaDoor
open Go.RowKit
set_option linter.unusedVariables false

theorem fill_link {ii : TypeInfo} {zz : Value} (h1 : ii.size = 35) (D : Array Value) (hD : D.size = 35) : Instr.fill (fun i => some (i * ii.size, ii.size)) ((Array.range (1 * ii.size)).map (zz.cells[· % zz.cells.size]!)) [(0, .agg D)] = some D := by
  rw [h1]
  exact fill_one 35 D _ (by omega) hD (by rw [Array.size_map, Array.size_range])

/-- the test of Add says nothing -/
theorem addArg_false {ls : List Lk} {node : Int} {l : List UInt8} (h : addArg ls node l = false) : 0 ≤ node ∧ node < 24 ∧ (ls ≠ [] → node = nd0 ls) ∧ l.length ≤ 65536 := by
  unfold addArg at h
  rw [decide_eq_false_iff_not] at h
  refine ⟨?_, ?_, ?_, ?_⟩
  · rcases Int.lt_or_le node 0 with h1 | h1
    · exact absurd (Or.inl h1) h
    · exact h1
  · rcases Int.lt_or_le node 24 with h1 | h1
    · exact h1
    · exact absurd (Or.inr (Or.inl h1)) h
  · intro h1
    rcases Classical.em (node = nd0 ls) with h2 | h2
    · exact h2
    · exact absurd (Or.inr (Or.inr (Or.inl ⟨h1, h2⟩))) h
  · rcases Nat.lt_or_ge 65536 l.length with h1 | h1
    · exact absurd (Or.inr (Or.inr (Or.inr h1))) h
    · exact h1

set_option maxRecDepth 100000 in
set_option maxHeartbeats 2000000 in
theorem add_ok (p q : Option Addr) (n c m d : Nat) (node : Int) (ls : List Lk) (l : List UInt8) (w : World) (hn : n = ls.length) (hm : m = l.length) (hf : Few ls) (h : Links w p ls) (hsb : SB w q l) (htab : Tabs w) (hc : n ≤ c) (hcm : c ≤ maxLen) (hk : chk ls = 0) (ha : addArg ls node l = false) :
    Calls Tryd.prog 10 #[.slice p n c, .int .i64 node, .slice q m d] w fun e w' => ∃ p' c', e = .returned (.tuple #[.slice p' (n + 1) c', .int .i64 0]) ∧ Up w w' ∧ n + 1 ≤ c' ∧ c' ≤ maxLen ∧ Links w' p' (ls ++ [newLk ls node l]) := by
  have HC := Lib.hid (chCheck_calls p n c ls w hn hf h htab hc hcm)
  rw [hk] at HC
  obtain ⟨a1, a2, a3, a4⟩ := addArg_false ha
  have hn100 : n ≤ 100 := by rw [hn]; exact hf.1
  have HH := Lib.hid fun W (hu : Up w W) => head_calls p n c ls W hn hf (h.up hu) (htab.up hu)
  have HCL := Lib.hid fun W (hu : Up w W) => clone_calls q m d l W hm (hsb.up hu) (by omega)
  have HL := Lib.hid h
  have HN := Lib.hid hn
  have HM := Lib.hid hm
  have HFF := Lib.hid hf
  have d1 : decide (node < 0) = false := by simpa using a1
  have d2 : decide ((24 : Int) ≤ node) = false := by simpa using a2
  have d3 : decide ((65536 : Int) < (m : Int)) = false := by rw [hm]; simp; omega
  have hhl := hd_len ls
  have d5 : ((n : Int) == 1024) = false := by simp; omega
  -- the first link's Node
  have FIRST : Hid (0 < n → ∃ b o, p = some ⟨b, o, none⟩ ∧ ∀ W, Up w W → W.cell? ⟨b, o, none⟩ = some (.int .i64 node)) := by
    intro h0
    have hne : ls ≠ [] := by rintro rfl; simp at hn; omega
    obtain ⟨b, o, e, hat⟩ := h hne
    obtain ⟨cs, ⟨px, cx, hcs, _, _, _⟩, hrg⟩ := hat 0 (List.length_pos_iff.2 hne)
    have hnd : nd0 ls = ls[0].node := by cases ls with | nil => exact absurd rfl hne | cons x xs => rfl
    have hc0 : w.cell? ⟨b, o, none⟩ = some (.int .i64 node) := by
      have := hrg 0 (.int .i64 ls[0].node) (by rw [hcs]; rfl)
      rw [a3 hne, hnd]; simpa using this
    exact ⟨b, o, e, fun W hu => (hu.below.cell (p := ⟨b, o, none⟩) (block_lt_of_cell hc0)).trans hc0⟩
  have d4 : (node == node) = true := by simp
  have d4' : (node != node) = false := by simp
  obtain ⟨x, hx⟩ : ∃ x, x = newLk ls node l := ⟨_, rfl⟩
  have hxn : x.node = node := by rw [hx]; rfl
  have hxo : x.no = (n : Int) := by rw [hx, hn]; rfl
  have hxp : x.prev = hd ls := by rw [hx]; rfl
  have hxd : x.data = l := by rw [hx]; rfl
  have BUILT := Lib.hid fun (pc : Option Addr) (cc : Nat) => (by
    have := built_link x (by rw [hxp]; exact hhl) pc cc
    rw [hxn, hxo, hxp, hxd, ← hm] at this
    exact this : Tryd.prog.built 37 [(0, .int .i64 node), (1, .int .i64 (n : Int)), (2, .agg (u8s (hd ls)).toArray), (3, .slice pc m cc)] = some (lkCells x pc cc).toArray)
  have HX := Lib.hid hx
  have HXP : Hid (x.prev.length = 32) := by show _ = _; rw [hxp]; exact hhl
  have HXD := Lib.hid hxd
  obtain ⟨E, hE⟩ : ∃ E, E = (u8s (hd ls)).toArray := ⟨_, rfl⟩
  have HE := Lib.hid hE
  have HHL := Lib.hid hhl
  rw [← hE] at HH BUILT
  rw [← hx]
  clear hn hm hf h hsb htab hk ha a1 a2 a3 a4 hE hhl hx hxn hxo hxp hxd
  rcases Nat.eq_zero_or_pos n with hz | hpos
  case inr =>
    obtain ⟨bf, of, rfl, hcf⟩ := FIRST.out hpos
    have hn0 : (0 : Int) < n := by omega
    have hn1 : decide ((0 : Int) < n) = true := by simpa using hpos
    have HCF := Lib.hid hcf
    clear hcf FIRST
    go_enter Tryd.func10, Tryd.ntmps10
    go_wp2_with fail
    refine HC.out.mono ?_
    rintro e w1 ⟨rfl, u1⟩
    have U1 := Lib.hid u1
    clear u1
    have hc1 := HCF.out w1 U1.out
    go_wp2_with fail
    refine (HH.out w1 U1.out).mono ?_
    rintro e w2 ⟨rfl, u2⟩
    have U2 : Hid (Up w w2) := Up.trans U1.out u2
    clear u2
    clear hc1
    go_wp2_with fail
    refine (HCL.out w2 U2.out).mono ?_
    rintro e w3 ⟨pc, cc, rfl, u3, g1, g2, g3⟩
    have U3 : Hid (Up w w3) := Up.trans U2.out u3
    have G3 := Lib.hid g3
    have hB := BUILT.out pc cc
    obtain ⟨D, hD⟩ : ∃ D, D = (lkCells x pc cc).toArray := ⟨_, rfl⟩
    rw [← hD] at hB
    have hDl : D.toList = lkCells x pc cc := by rw [hD]
    have hDs : D.size = 35 := by rw [hD, List.size_toArray, lkCells_len HXP.out]
    have hDc : D.all (·.oneCell') = true := by rw [hD]; exact all_oneCell_toArray (lkCells_one x pc cc)
    have HB := Lib.hid hB
    have HDL := Lib.hid hDl
    have HDS := Lib.hid hDs
    have HDC := Lib.hid hDc
    have G12 := Lib.hid (And.intro g1 g2)
    clear u3 g3 hB hD hDl hDs hDc g1 g2
    go_wp2_with (first | (refine wpList_buildTo rfl 37 _ rfl (some 48) rfl D (by simpa [Act.eval] using HB.out) ?_) | (refine wpList_allocG rfl 37 35 allocsLink rfl ?_; intro W2 u2 z2 hz2; obtain ⟨Z2, hZ2, hb2⟩ := hz2; have V2 := Lib.hid u2; have HZ2 := Lib.hid hZ2; have HB2 := Lib.hid hb2; clear u2 z2 hZ2 hb2) | (refine wpList_store_row rfl 37 (.tmp 8) (.tmp 48) rfl _ D rfl rfl 37 _ HB2.out (by rw [HDS.out]; rfl) (by rw [HZ2.out, HDS.out]) HDC.out ?_))
    obtain ⟨bx, hbx⟩ : ∃ b, b = w3.heap.size := ⟨_, rfl⟩
    have HB2' := HB2.out
    rw [← hbx] at HB2'
    rw [← hbx]
    refine wp_named ?_
    intro W4 hW4
    have u4 : Up w3 W4 := setRow_upN hW4 V2.out (by omega)
    have y4 := setRow_named hW4 HB2'
    have U4 : Hid (Up w W4) := Up.trans U3.out u4
    have HSB4 : Hid (SB W4 pc l) := G3.out.up u4
    have Y4 := Lib.hid y4
    clear u4 y4 hW4 HB2' HB2 hbx
    refine wp_region_mix_at [0, 1, 2, 3, 4, 5, 6] [7, 8, 9, 10] (by kernel_rfl) (by kernel_rfl) (fun _ _ d _ _ h => by cases d <;> exact h) ?_
    intro W U hW
    refine ⟨fun W' => Up W W', Up.refl _, ?_⟩
    have HU := Lib.hid U
    have YW : Hid (W.heap[bx]? = some (.cells D 37 (0, 0))) := by show _ = _; rw [hW]; exact Y4.out
    haveI : Nonempty (InC (fun W' => Up W W')) := ⟨⟨W, Up.refl _⟩⟩
    clear U hW
    have hcn : (n : Int) ≤ c := by omega
    have hn0' : (0 : Int) ≤ n := by omega
    simp only [pick, List.getElem?_cons_zero, List.getElem?_cons_succ]
    repeat (first | (refine wpStillC_load_arr (by rfl) 37 (.tmp 8) rfl bx 0 rfl D _ (fun w' hw' => by (obtain ⟨z, rfl⟩ := hw'; exact rangeAt_row ((z.h.block bx (lt_of_block YW.out)).trans YW.out))) rfl rfl (by rw [HDS.out]; rfl) ?_) | (refine wpStillC_step (fun K hK => ?_); go_simp; refine hK _ ?_; clear hK K))
    refine wpStillC_nil ?_
    clear hcn hn0'
    obtain ⟨ii, zz, hi, hz, h1, h2, h3⟩ := infoLink
    refine wpChain_want rfl (fun K hK => ?_)
    refine wp_buildSlice 22 37 1 #[(0, .tmp 55)] rfl D ii zz rfl hi hz (by rw [h1]; decide) (by rw [h1]; decide) (by simp only [List.map_toArray, List.map_cons, List.map_nil]; exact fill_link (zz := zz) h1 D HDS.out) ?_
    refine hK _ _ (inC ((Up.refl W).alloc _)) ?_
    clear hK K
    refine wpChain_nm ?_
    intro W5 hW5
    have u5 : Up W W5 := by rw [hW5]; exact (Up.refl W).alloc _
    have y5 : W5.heap[W.heap.size]? = some (.cells D 37 (0, 0)) := by rw [hW5]; exact heap_new rfl
    have hU5 : Up w W5 := Up.trans U4.out (Up.trans HU.out u5)
    have hlv : LkV W5 D.toList x := ⟨pc, cc, HDL.out, by rw [HXD.out, ← HM.out]; exact G12.out.1, G12.out.2, by rw [HXD.out]; exact HSB4.out.up (Up.trans HU.out u5)⟩
    obtain ⟨q6, c6, W6, hr6, u6, g61, g62, g63⟩ := run_append_link W5 (some ⟨bf, of, none⟩) n ls x W.heap.size D _ _ HN.out (by omega) (fun y hy => (HFF.out.2 y hy).prev) HXP.out (HL.out.up hU5) hlv y5
    have U6 : Hid (Up w W6) := Up.trans hU5 u6
    have G6 := Lib.hid (And.intro g61 (And.intro g62 g63))
    refine wpChain_want rfl (fun K hK => ?_)
    refine wp_append_run (.tmp 54) (.tmp 56) 22 22 rfl (.slice (some ⟨bf, of, none⟩) n n) (.slice (some ⟨W.heap.size, 0, none⟩) 1 1) (.slice q6 (n + 1) c6) W6 rfl rfl hr6 ?_
    refine hK _ _ (inC (Up.trans u5 u6)) ?_
    have hIC : Up W W6 := Up.trans u5 u6
    clear hK K hW5 u5 y5 hU5 hlv hr6 u6 g61 g62 g63 hi hz h1 h2 h3
    refine wpChain_step (fun K hK => ?_)
    go_simp
    refine hK _ _ (inC hIC) ?_
    clear hK K
    refine wpChain_step (fun K hK => ?_)
    go_simp
    refine hK _ _ (inC hIC) ?_
    clear hK K hIC
    refine wpChain_nil ?_
    go_wp2
    go_ret2
    exact ⟨q6, c6, rfl, U6.out, G6.out.1, G6.out.2.1, G6.out.2.2⟩
  case inl =>
    subst hz
    clear FIRST
    go_enter Tryd.func10, Tryd.ntmps10
    go_wp2_with fail
    refine HC.out.mono ?_
    rintro e w1 ⟨rfl, u1⟩
    have U1 := Lib.hid u1
    clear u1
    go_wp2_with fail
    refine (HH.out w1 U1.out).mono ?_
    rintro e w2 ⟨rfl, u2⟩
    have U2 : Hid (Up w w2) := Up.trans U1.out u2
    clear u2
    go_wp2_with fail
    refine (HCL.out w2 U2.out).mono ?_
    rintro e w3 ⟨pc, cc, rfl, u3, g1, g2, g3⟩
    have U3 : Hid (Up w w3) := Up.trans U2.out u3
    have G3 := Lib.hid g3
    have hB := BUILT.out pc cc
    obtain ⟨D, hD⟩ : ∃ D, D = (lkCells x pc cc).toArray := ⟨_, rfl⟩
    rw [← hD] at hB
    have hDl : D.toList = lkCells x pc cc := by rw [hD]
    have hDs : D.size = 35 := by rw [hD, List.size_toArray, lkCells_len HXP.out]
    have hDc : D.all (·.oneCell') = true := by rw [hD]; exact all_oneCell_toArray (lkCells_one x pc cc)
    have HB := Lib.hid hB
    have HDL := Lib.hid hDl
    have HDS := Lib.hid hDs
    have HDC := Lib.hid hDc
    have G12 := Lib.hid (And.intro g1 g2)
    clear u3 g3 hB hD hDl hDs hDc g1 g2
    go_wp2_with (first | (refine wpList_buildTo rfl 37 _ rfl (some 48) rfl D (by simpa [Act.eval] using HB.out) ?_) | (refine wpList_allocG rfl 37 35 allocsLink rfl ?_; intro W2 u2 z2 hz2; obtain ⟨Z2, hZ2, hb2⟩ := hz2; have V2 := Lib.hid u2; have HZ2 := Lib.hid hZ2; have HB2 := Lib.hid hb2; clear u2 z2 hZ2 hb2) | (refine wpList_store_row rfl 37 (.tmp 8) (.tmp 48) rfl _ D rfl rfl 37 _ HB2.out (by rw [HDS.out]; rfl) (by rw [HZ2.out, HDS.out]) HDC.out ?_))
    obtain ⟨bx, hbx⟩ : ∃ b, b = w3.heap.size := ⟨_, rfl⟩
    have HB2' := HB2.out
    rw [← hbx] at HB2'
    rw [← hbx]
    refine wp_named ?_
    intro W4 hW4
    have u4 : Up w3 W4 := setRow_upN hW4 V2.out (by omega)
    have y4 := setRow_named hW4 HB2'
    have U4 : Hid (Up w W4) := Up.trans U3.out u4
    have HSB4 : Hid (SB W4 pc l) := G3.out.up u4
    have Y4 := Lib.hid y4
    clear u4 y4 hW4 HB2' HB2 hbx
    refine wp_region_mix_at [0, 1, 2, 3, 4, 5, 6] [7, 8, 9, 10] (by kernel_rfl) (by kernel_rfl) (fun _ _ d _ _ h => by cases d <;> exact h) ?_
    intro W U hW
    refine ⟨fun W' => Up W W', Up.refl _, ?_⟩
    have HU := Lib.hid U
    have YW : Hid (W.heap[bx]? = some (.cells D 37 (0, 0))) := by show _ = _; rw [hW]; exact Y4.out
    haveI : Nonempty (InC (fun W' => Up W W')) := ⟨⟨W, Up.refl _⟩⟩
    clear U hW
    have hcn : (0 : Int) ≤ c := by omega
    simp only [pick, List.getElem?_cons_zero, List.getElem?_cons_succ]
    repeat (first | (refine wpStillC_load_arr (by rfl) 37 (.tmp 8) rfl bx 0 rfl D _ (fun w' hw' => by (obtain ⟨z, rfl⟩ := hw'; exact rangeAt_row ((z.h.block bx (lt_of_block YW.out)).trans YW.out))) rfl rfl (by rw [HDS.out]; rfl) ?_) | (refine wpStillC_step (fun K hK => ?_); go_simp; refine hK _ ?_; clear hK K))
    refine wpStillC_nil ?_
    clear hcn
    obtain ⟨ii, zz, hi, hz, h1, h2, h3⟩ := infoLink
    refine wpChain_want rfl (fun K hK => ?_)
    refine wp_buildSlice 22 37 1 #[(0, .tmp 55)] rfl D ii zz rfl hi hz (by rw [h1]; decide) (by rw [h1]; decide) (by simp only [List.map_toArray, List.map_cons, List.map_nil]; exact fill_link (zz := zz) h1 D HDS.out) ?_
    refine hK _ _ (inC ((Up.refl W).alloc _)) ?_
    clear hK K
    refine wpChain_nm ?_
    intro W5 hW5
    have u5 : Up W W5 := by rw [hW5]; exact (Up.refl W).alloc _
    have y5 : W5.heap[W.heap.size]? = some (.cells D 37 (0, 0)) := by rw [hW5]; exact heap_new rfl
    have hU5 : Up w W5 := Up.trans U4.out (Up.trans HU.out u5)
    have hlv : LkV W5 D.toList x := ⟨pc, cc, HDL.out, by rw [HXD.out, ← HM.out]; exact G12.out.1, G12.out.2, by rw [HXD.out]; exact HSB4.out.up (Up.trans HU.out u5)⟩
    obtain ⟨q6, c6, W6, hr6, u6, g61, g62, g63⟩ := run_append_link W5 p 0 ls x W.heap.size D _ _ HN.out (by omega) (fun y hy => (HFF.out.2 y hy).prev) HXP.out (HL.out.up hU5) hlv y5
    have U6 : Hid (Up w W6) := Up.trans hU5 u6
    have G6 := Lib.hid (And.intro g61 (And.intro g62 g63))
    refine wpChain_want rfl (fun K hK => ?_)
    refine wp_append_run (.tmp 54) (.tmp 56) 22 22 rfl (.slice p 0 0) (.slice (some ⟨W.heap.size, 0, none⟩) 1 1) (.slice q6 (0 + 1) c6) W6 rfl rfl hr6 ?_
    refine hK _ _ (inC (Up.trans u5 u6)) ?_
    have hIC : Up W W6 := Up.trans u5 u6
    clear hK K hW5 u5 y5 hU5 hlv hr6 u6 g61 g62 g63 hi hz h1 h2 h3
    refine wpChain_step (fun K hK => ?_)
    go_simp
    refine hK _ _ (inC hIC) ?_
    clear hK K
    refine wpChain_step (fun K hK => ?_)
    go_simp
    refine hK _ _ (inC hIC) ?_
    clear hK K hIC
    refine wpChain_nil ?_
    go_wp2
    go_ret2
    exact ⟨q6, c6, rfl, U6.out, G6.out.1, G6.out.2.1, G6.out.2.2⟩

end Go.Proofs.YtpafambdccejnaaDoor

namespace Go.Proofs.YtpafambdccejnaaDoor
open Go.RowKit
set_option linter.unusedVariables false

theorem Flat.kept {w w' : World} {ls : List Lk} {css : List (List Value)} (h : Flat w ls css) (hk : ∀ k, k < w.heap.size → w'.heap[k]? = w.heap[k]?) : Flat w' ls css := ⟨h.len, fun i h1 h2 => (h.at' i h1 h2).kept hk⟩

/-- a row of links of the call's own; what the links point at lies in the world w0 -/
def OwnK (w0 w : World) (base : Nat) (v : Value) (ls : List Lk) : Prop := ∃ css, Flat w0 ls css ∧ w.ownsRow base 37 35 v ls.length css.flatten
theorem OwnK.form {w0 w : World} {base : Nat} {v : Value} {ls : List Lk} (h : OwnK w0 w base v ls) : ∃ p c, v = .slice p ls.length c := by
  obtain ⟨css, hF, hown⟩ := h
  rcases hown.2 with ⟨rfl, hn⟩ | ⟨g, cap, cur, rfl, _⟩
  · exact ⟨none, 0, by rw [hn]⟩
  · exact ⟨_, cap, rfl⟩
theorem OwnK.links {w0 w : World} {base : Nat} {v : Value} {ls : List Lk} (hp : ∀ x ∈ ls, x.prev.length = 32) (hk : ∀ k, k < w0.heap.size → w.heap[k]? = w0.heap[k]?) (h : OwnK w0 w base v ls) : ∃ p c, v = .slice p ls.length c ∧ ls.length ≤ c ∧ c ≤ maxLen ∧ Links w p ls := by
  obtain ⟨css, hF, hown⟩ := h
  obtain ⟨p, c, h1, h2, h3, h4, _⟩ := OwnL.links hp ⟨css, hF.kept hk, hown⟩
  exact ⟨p, c, h1, h2, h3, h4⟩
theorem OwnK.up {w0 w w' : World} {base : Nat} {v : Value} {ls : List Lk} (h : OwnK w0 w base v ls) (hu : Up w w') : OwnK w0 w' base v ls := by
  obtain ⟨css, hF, hown⟩ := h
  refine ⟨css, hF, hown.1, ?_⟩
  rcases hown.2 with h | ⟨g, cap, cur, rfl, hbg, hg, h2⟩
  · exact .inl h
  · exact .inr ⟨g, cap, cur, rfl, hbg, (hu.block g (lt_of_block hg)).trans hg, h2⟩
theorem OwnK.empty (w0 w : World) : OwnK w0 (w.alloc (.cells #[] 37 (0, 0))) w.heap.size (.slice (some ⟨w.heap.size, 0, none⟩) 0 0) [] :=
  ⟨[], ⟨rfl, fun i h => by simp at h⟩, World.ownsRow_made w #[] 0 (Nat.le_refl _) (by unfold maxLen; omega) rfl⟩

theorem wpList_appL {w0 w : World} {ops : Array Oper} {rest : List Oper} {o : Oper} {a : Act} {Q : Exit → Act → World → Prop} (hgd : o.guard = none) (s x : Operand)
    (ho : o.op = .call { callee := .builtin .append, args := #[s, x], argTypes := #[22, 22] }) (hty : o.type = 22)
    (base : Nat) (v : Value) (ls ls2 : List Lk) (vx : Value) (m : Nat) (css2 : List (List Value)) (hs : a.eval s = v) (hx : a.eval x = vx) (hm : m = ls2.length) (hlen : ls.length + m ≤ 1000)
    (hown : OwnK w0 w base v ls) (hF2 : Flat w0 ls2 css2) (hsrc : Src Tryd.prog 35 22 vx m css2.flatten w) (hbase : base ≤ w.heap.size)
    (h : ∀ v' w', OwnK w0 w' base v' (ls ++ ls2) → Below base w w' → wpList Tryd.prog ops Q rest (a.put o.dst v') w') : wpList Tryd.prog ops Q (o :: rest) a w := by
  subst hm
  obtain ⟨i, z, hi, hz, h1, h2, h3⟩ := infoLink
  obtain ⟨css, hF, hown⟩ := hown
  obtain ⟨v', w', hr, ho2, hg, hgo⟩ := run_append_src (P := Tryd.prog) w base 22 22 22 37 i z 35 72 rfl hi hz h1 h2 h3 v ls.length css.flatten hown vx ls2.length css2.flatten hsrc (by omega) (by omega) hbase
  refine wpList_append_run hgd s x 22 22 ho v vx v' w' hs hx (by rw [← hr, hty]) (h v' w' ⟨css ++ css2, ?_, ?_⟩ (grown_below hg hbase (fun g hg' => (World.ownsRow.lt hown g hg').1)))
  · refine ⟨by simp [hF.len, hF2.len], fun k h4 h5 => ?_⟩
    rcases Nat.lt_or_ge k ls.length with hk | hk
    · rw [List.getElem_append_left (by rw [hF.len]; exact hk), List.getElem_append_left hk]
      exact hF.at' k hk (by rw [hF.len]; exact hk)
    · have hk2 : k - ls.length < ls2.length := by simp at h4; omega
      rw [List.getElem_append_right (by rw [hF.len]; exact hk), List.getElem_append_right hk]
      have := hF2.at' (k - ls.length) hk2 (by rw [hF2.len]; exact hk2)
      simp only [hF.len]
      exact this
  · rw [List.length_append, List.flatten_append]; exact ho2

theorem radd_chk (p q : Option Addr) (n c m d : Nat) (node : Int) (ls : List Lk) (w : World) (hn : n = ls.length) (hf : Few ls) (h : Links w p ls) (hc : n ≤ c) (hcm : c ≤ maxLen) (hk : chk ls = 80) :
    Calls Tryd.prog 11 #[.slice p n c, .int .i64 node, .slice q m d] w fun e w' => e = .returned (.tuple #[.slice none 0 0, .int .i64 80]) ∧ Up w w' := by
  have HC := Lib.hid (rCheck_calls p n c ls w hn hf h hc hcm)
  rw [hk] at HC
  clear hn hf h hk
  go_enter Tryd.func11, Tryd.ntmps11
  go_wp2_with fail
  refine HC.out.mono ?_
  rintro e w1 ⟨rfl, u1⟩
  have U1 := Lib.hid u1
  clear u1
  go_wp2_with fail
  go_ret2
  exact ⟨rfl, U1.out⟩

set_option maxHeartbeats 2000000 in
theorem radd_arg (p q : Option Addr) (n c m d : Nat) (node : Int) (ls : List Lk) (l : List UInt8) (w : World) (hn : n = ls.length) (hm : m = l.length) (hf : Few ls) (h : Links w p ls) (hc : n ≤ c) (hcm : c ≤ maxLen) (hk : chk ls = 0) (ha : addArg ls node l = true) :
    Calls Tryd.prog 11 #[.slice p n c, .int .i64 node, .slice q m d] w fun e w' => e = .returned (.tuple #[.slice none 0 0, .int .i64 1]) ∧ Up w w' := by
  have HC := Lib.hid (rCheck_calls p n c ls w hn hf h hc hcm)
  rw [hk] at HC
  unfold addArg at ha
  rw [decide_eq_true_iff] at ha
  by_cases h1 : node < 0
  case pos =>
    have d1 : decide (node < 0) = true := by simpa using h1
    clear hn hm hf h hk ha
    go_enter Tryd.func11, Tryd.ntmps11
    go_wp2_with fail
    refine HC.out.mono ?_
    rintro e w1 ⟨rfl, u1⟩
    have U1 := Lib.hid u1
    clear u1
    go_wp2_with fail
    go_ret2
    exact ⟨rfl, U1.out⟩
  have d1 : decide (node < 0) = false := by simpa using h1
  by_cases h2 : 24 ≤ node
  case pos =>
    have d2 : decide ((24 : Int) ≤ node) = true := by simpa using h2
    clear hn hm hf h hk ha
    go_enter Tryd.func11, Tryd.ntmps11
    go_wp2_with fail
    refine HC.out.mono ?_
    rintro e w1 ⟨rfl, u1⟩
    have U1 := Lib.hid u1
    clear u1
    go_wp2_with fail
    go_ret2
    exact ⟨rfl, U1.out⟩
  have d2 : decide ((24 : Int) ≤ node) = false := by simpa using h2
  by_cases h3 : ls = []
  · have h4 : 65536 < l.length := by
      rcases ha with h | h | h | h
      · exact absurd h h1
      · exact absurd h h2
      · exact absurd h3 h.1
      · exact h
    have hn0 : n = 0 := by rw [hn, h3]; rfl
    subst hn0
    have d3 : decide ((65536 : Int) < (m : Int)) = true := by rw [hm]; simp; omega
    clear hn hm hf h hk ha h3 h4
    go_enter Tryd.func11, Tryd.ntmps11
    go_wp2_with fail
    refine HC.out.mono ?_
    rintro e w1 ⟨rfl, u1⟩
    have U1 := Lib.hid u1
    clear u1
    go_wp2_with fail
    go_ret2
    exact ⟨rfl, U1.out⟩
  · obtain ⟨x, xs, rfl⟩ := List.exists_cons_of_ne_nil h3
    have hnd : nd0 (x :: xs) = x.node := rfl
    rw [hnd] at ha
    obtain ⟨b, o, rfl, hat⟩ := h (by simp)
    obtain ⟨cs, ⟨px, cx, hcs, _, _, _⟩, hrg⟩ := hat 0 (by simp)
    have hc0 : w.cell? ⟨b, o, none⟩ = some (.int .i64 x.node) := by
      have := hrg 0 (.int .i64 x.node) (by rw [hcs]; rfl)
      simpa using this
    have HC0 := Lib.hid hc0
    have hn0 : (0 : Int) < n := by rw [hn]; simp only [List.length_cons]; omega
    have hn1 : decide ((0 : Int) < n) = true := by simpa using hn0
    obtain ⟨m0, hm0⟩ : ∃ m0, m0 = x.node := ⟨_, rfl⟩
    rw [← hm0] at HC0 ha
    by_cases h4 : node = m0
    · have h5 : 65536 < l.length := by
        rcases ha with h | h | h | h
        · exact absurd h h1
        · exact absurd h h2
        · exact absurd h4 h.2
        · exact h
      have d3 : decide ((65536 : Int) < (m : Int)) = true := by rw [hm]; simp; omega
      have d4 : (m0 == node) = true := by simp [h4]
      have d4' : (m0 != node) = false := by simp [h4]
      clear hn hm hf h hk ha h3 h4 h5 hc0 hat hrg hcs hnd hm0
      go_enter Tryd.func11, Tryd.ntmps11
      go_wp2_with fail
      refine HC.out.mono ?_
      rintro e w1 ⟨rfl, u1⟩
      have U1 := Lib.hid u1
      have hc1 : w1.cell? ⟨b, o, none⟩ = some (.int .i64 m0) := (u1.below.cell (p := ⟨b, o, none⟩) (block_lt_of_cell HC0.out)).trans HC0.out
      clear u1
      go_wp2_with fail
      go_ret2
      exact ⟨rfl, U1.out⟩
    · have d4 : (m0 == node) = false := by simpa using Ne.symm h4
      have d4' : (m0 != node) = true := by simpa using Ne.symm h4
      clear hn hm hf h hk ha h3 h4 hc0 hat hrg hcs hnd hm0
      go_enter Tryd.func11, Tryd.ntmps11
      go_wp2_with fail
      refine HC.out.mono ?_
      rintro e w1 ⟨rfl, u1⟩
      have U1 := Lib.hid u1
      have hc1 : w1.cell? ⟨b, o, none⟩ = some (.int .i64 m0) := (u1.below.cell (p := ⟨b, o, none⟩) (block_lt_of_cell HC0.out)).trans HC0.out
      clear u1
      go_wp2_with fail
      go_ret2
      exact ⟨rfl, U1.out⟩


end Go.Proofs.YtpafambdccejnaaDoor

namespace Go.Proofs.YtpafambdccejnaaDoor
open Go.RowKit
set_option linter.unusedVariables false

theorem src_one' {w : World} {g : Nat} {x : Lk} {D : Array Value} {t : TypeId} {fr : Nat × Nat} (hx : x.prev.length = 32) (hv : LkV w D.toList x) (hg : w.heap[g]? = some (.cells D t fr)) (c : Nat) : Src Tryd.prog 35 22 (.slice (some ⟨g, 0, none⟩) 1 c) 1 [D.toList].flatten w := by
  rw [List.flatten_singleton]; exact src_one hx hv hg c

theorem Links.src2 {w : World} {p : Option Addr} {ls : List Lk} (hp : ∀ x ∈ ls, x.prev.length = 32) (h : Links w p ls) (c : Nat) : ∃ css, Flat w ls css ∧ ∀ W, Up w W → Src Tryd.prog 35 22 (.slice p ls.length c) ls.length css.flatten W := by
  obtain ⟨css, hF, hc⟩ := h.flat hp
  refine ⟨css, hF, fun W hu => ?_⟩
  have hlen := flatten_len35 css (hF.all hp)
  by_cases hne : ls = []
  · subst hne
    have : css = [] := List.eq_nil_of_length_eq_zero (by have := hF.len; simpa using this)
    subst this
    cases p with
    | none => exact Src.ofNil W rfl c
    | some a => exact Src.ofSlice W rfl a 0 c [] rfl (fun j u h => by cases h) (fun _ h => by cases h)
  · obtain ⟨b, o, rfl, hc2⟩ := hc hne
    refine Src.ofSlice W rfl _ _ c _ (by rw [hlen, hF.len]) (fun j u hu2 => ?_) hF.one
    rw [Addr.add_mid]
    have := hc2 j u hu2
    exact (hu.below.cell (p := ⟨b, o + j, none⟩) (block_lt_of_cell this)).trans this

set_option maxRecDepth 100000 in
set_option maxHeartbeats 2000000 in
theorem radd_ok (p q : Option Addr) (n c m d : Nat) (node : Int) (ls : List Lk) (l : List UInt8) (w : World) (hn : n = ls.length) (hm : m = l.length) (hf : Few ls) (h : Links w p ls) (hmd : m ≤ d) (hdm : d ≤ maxLen) (hsb : SB w q l) (hc : n ≤ c) (hcm : c ≤ maxLen) (hk : chk ls = 0) (ha : addArg ls node l = false) :
    Calls Tryd.prog 11 #[.slice p n c, .int .i64 node, .slice q m d] w fun e w' => ∃ p' c', e = .returned (.tuple #[.slice p' (n + 1) c', .int .i64 0]) ∧ Up w w' ∧ n + 1 ≤ c' ∧ c' ≤ maxLen ∧ Links w' p' (ls ++ [newLk ls node l]) := by
  have HC := Lib.hid (rCheck_calls p n c ls w hn hf h hc hcm)
  rw [hk] at HC
  obtain ⟨a1, a2, a3, a4⟩ := addArg_false ha
  have hn100 : n ≤ 100 := by rw [hn]; exact hf.1
  have HH := Lib.hid fun W (hu : Up w W) => rhead_calls p n c ls W hn hf (h.up hu)
  obtain ⟨css, hFl, hSr⟩ := h.src2 (fun y hy => (hf.2 y hy).prev) c
  rw [← hn] at hSr
  have HSB := Lib.hid hsb
  have HFL := Lib.hid hFl
  have HSR := Lib.hid hSr
  have HL := Lib.hid h
  have HN := Lib.hid hn
  have HM := Lib.hid hm
  have HFF := Lib.hid hf
  have d1 : decide (node < 0) = false := by simpa using a1
  have d2 : decide ((24 : Int) ≤ node) = false := by simpa using a2
  have d3 : decide ((65536 : Int) < (m : Int)) = false := by rw [hm]; simp; omega
  have hhl := hd_len ls
  have d5 : ((n : Int) == 1024) = false := by simp; omega
  -- the first link's Node
  have FIRST : Hid (0 < n → ∃ b o, p = some ⟨b, o, none⟩ ∧ ∀ W, Up w W → W.cell? ⟨b, o, none⟩ = some (.int .i64 node)) := by
    intro h0
    have hne : ls ≠ [] := by rintro rfl; simp at hn; omega
    obtain ⟨b, o, e, hat⟩ := h hne
    obtain ⟨cs, ⟨px, cx, hcs, _, _, _⟩, hrg⟩ := hat 0 (List.length_pos_iff.2 hne)
    have hnd : nd0 ls = ls[0].node := by cases ls with | nil => exact absurd rfl hne | cons x xs => rfl
    have hc0 : w.cell? ⟨b, o, none⟩ = some (.int .i64 node) := by
      have := hrg 0 (.int .i64 ls[0].node) (by rw [hcs]; rfl)
      rw [a3 hne, hnd]; simpa using this
    exact ⟨b, o, e, fun W hu => (hu.below.cell (p := ⟨b, o, none⟩) (block_lt_of_cell hc0)).trans hc0⟩
  have d4 : (node == node) = true := by simp
  have d4' : (node != node) = false := by simp
  obtain ⟨x, hx⟩ : ∃ x, x = newLk ls node l := ⟨_, rfl⟩
  have hxn : x.node = node := by rw [hx]; rfl
  have hxo : x.no = (n : Int) := by rw [hx, hn]; rfl
  have hxp : x.prev = hd ls := by rw [hx]; rfl
  have hxd : x.data = l := by rw [hx]; rfl
  have BUILT := Lib.hid (by
    have := built_link x (by rw [hxp]; exact hhl) q d
    rw [hxn, hxo, hxp, hxd, ← hm] at this
    exact this : Tryd.prog.built 37 [(0, .int .i64 node), (1, .int .i64 (n : Int)), (2, .agg (u8s (hd ls)).toArray), (3, .slice q m d)] = some (lkCells x q d).toArray)
  have HX := Lib.hid hx
  have HXP : Hid (x.prev.length = 32) := by show _ = _; rw [hxp]; exact hhl
  have HXD := Lib.hid hxd
  obtain ⟨E, hE⟩ : ∃ E, E = (u8s (hd ls)).toArray := ⟨_, rfl⟩
  have HE := Lib.hid hE
  have HHL := Lib.hid hhl
  rw [← hE] at HH BUILT
  rw [← hx]
  obtain ⟨D, hD⟩ : ∃ D, D = (lkCells x q d).toArray := ⟨_, rfl⟩
  rw [← hD] at BUILT
  have hDl : D.toList = lkCells x q d := by rw [hD]
  have hDs : D.size = 35 := by rw [hD, List.size_toArray, lkCells_len HXP.out]
  have HDS := Lib.hid hDs
  have hlv : LkV w D.toList x := ⟨q, d, hDl, by rw [hxd, ← hm]; exact hmd, hdm, by rw [hxd]; exact hsb⟩
  have HLV := Lib.hid hlv
  have HFN : Hid (Flat w [x] [D.toList]) := ⟨rfl, fun i h1 h2 => by
    have : i = 0 := by simpa using h1
    subst this; exact hlv⟩
  obtain ⟨ii, zz, hi, hz, h1, h2, h3⟩ := infoLink
  have HI := Lib.hid hi
  have HZ := Lib.hid hz
  have HI1 := Lib.hid h1
  clear hn hm hf h hsb hk ha a1 a2 a3 a4 hE hhl hx hxn hxo hxp hxd hFl hSr hlv hD hDl hDs hi hz h1 h2 h3
  rcases Nat.eq_zero_or_pos n with hz | hpos
  case inr =>
    obtain ⟨bf, of, rfl, hcf⟩ := FIRST.out hpos
    have hn0 : (0 : Int) < n := by omega
    have hn1 : decide ((0 : Int) < n) = true := by simpa using hpos
    have HCF := Lib.hid hcf
    clear hcf FIRST
    go_enter Tryd.func11, Tryd.ntmps11
    go_wp2_with fail
    refine HC.out.mono ?_
    rintro e w1 ⟨rfl, u1⟩
    have U1 := Lib.hid u1
    clear u1
    have hc1 := HCF.out w1 U1.out
    go_wp2_with (refine wpList_named ?_; intro W1 hW1; at_builtin; (have hu : Up w1 W1 := by (rw [hW1]; exact (Up.refl w1).alloc _)); (have ho : OwnK w W1 w1.heap.size (.slice (some ⟨w1.heap.size, 0, none⟩) 0 0) [] := by (rw [hW1]; exact OwnK.empty w w1)); have V1 := Lib.hid hu; have HO := Lib.hid ho; clear hW1 hu ho; refine wpList_appL rfl (.tmp 42) (.tmp 43) rfl rfl w1.heap.size _ [] ls _ n css rfl rfl HN.out (by simp only [List.length_nil]; omega) HO.out HFL.out (HSR.out _ (Up.trans U1.out V1.out)) V1.out.size ?_; intro v2 w2 o2 b2; rw [List.nil_append] at o2; obtain ⟨p2, c2, hv2⟩ := o2.form; have O2 := Lib.hid o2; have B2 := Lib.hid b2; clear o2 b2; subst hv2)
    have U2 : Hid (Up w w2) := Up.trans U1.out (Below.trans V1.out B2.out)
    refine (HH.out w2 U2.out).mono ?_
    rintro e w3 ⟨rfl, u3⟩
    have U3 : Hid (Up w w3) := Up.trans U2.out u3
    have O3 := Lib.hid (O2.out.up u3)
    have hsz : w1.heap.size ≤ w3.heap.size := Nat.le_trans (Nat.le_trans V1.out.size B2.out.size) u3.size
    have S3 := Lib.hid hsz
    clear u3 hsz
    go_wp2_with (first | (refine wpList_buildTo rfl 37 _ rfl (some 52) rfl D (by simpa [Act.eval] using BUILT.out) ?_) | (refine wpList_buildSlice rfl 22 37 1 #[(0, .tmp 52)] rfl D ii zz rfl HI.out HZ.out (by rw [HI1.out]; decide) (by rw [HI1.out]; decide) (by simp only [List.map_toArray, List.map_cons, List.map_nil]; exact fill_link (zz := zz) HI1.out D HDS.out) ?_) | (refine wpList_named ?_; intro W4 hW4; at_builtin; (have hu : Up w3 W4 := by (rw [hW4]; exact (Up.refl w3).alloc _)); (have hy : W4.heap[w3.heap.size]? = some (.cells D 37 (0, 0)) := by (rw [hW4]; exact heap_new rfl)); have V4 := Lib.hid hu; have Y4 := Lib.hid hy; clear hW4 hu hy; refine wpList_appL rfl (.tmp 45) (.tmp 53) rfl rfl w1.heap.size _ ls [x] _ 1 [D.toList] rfl rfl rfl (by have := HN.out; omega) (O3.out.up V4.out) HFN.out (src_one' HXP.out (HLV.out.up (Up.trans U3.out V4.out)) Y4.out 1) (Nat.le_trans S3.out V4.out.size) ?_; intro v5 w5 o5 b5; obtain ⟨p5, c5, hv5⟩ := o5.form; have O5 := Lib.hid o5; have B5 := Lib.hid b5; clear o5 b5; subst hv5))
    have hlow : w.heap.size ≤ w1.heap.size := U1.out.size
    have U5 : Hid (Up w w5) := Below.trans U3.out ((V4.out.mono S3.out).trans B5.out |>.mono hlow)
    have hpr : ∀ y ∈ ls ++ [x], y.prev.length = 32 := by
      intro y hy
      rcases List.mem_append.1 hy with hy | hy
      · exact (HFF.out.2 y hy).prev
      · rw [List.mem_singleton.1 hy]; exact HXP.out
    obtain ⟨p6, c6, e6, g1, g2, g3⟩ := O5.out.links hpr (fun k hk => U5.out.block k hk)
    injection e6 with e7 _ e8
    subst e7 e8
    have hln : (ls ++ [x]).length = n + 1 := by rw [List.length_append, ← HN.out]; rfl
    rw [hln] at g1
    go_ret2
    exact ⟨p5, c5, by rw [← HN.out] <;> rfl, U5.out, g1, g2, g3⟩
  case inl =>
    subst hz
    clear FIRST
    go_enter Tryd.func11, Tryd.ntmps11
    go_wp2_with fail
    refine HC.out.mono ?_
    rintro e w1 ⟨rfl, u1⟩
    have U1 := Lib.hid u1
    clear u1
    go_wp2_with (refine wpList_named ?_; intro W1 hW1; at_builtin; (have hu : Up w1 W1 := by (rw [hW1]; exact (Up.refl w1).alloc _)); (have ho : OwnK w W1 w1.heap.size (.slice (some ⟨w1.heap.size, 0, none⟩) 0 0) [] := by (rw [hW1]; exact OwnK.empty w w1)); have V1 := Lib.hid hu; have HO := Lib.hid ho; clear hW1 hu ho; refine wpList_appL rfl (.tmp 42) (.tmp 43) rfl rfl w1.heap.size _ [] ls _ 0 css rfl rfl HN.out (by simp only [List.length_nil]; omega) HO.out HFL.out (HSR.out _ (Up.trans U1.out V1.out)) V1.out.size ?_; intro v2 w2 o2 b2; rw [List.nil_append] at o2; obtain ⟨p2, c2, hv2⟩ := o2.form; have O2 := Lib.hid o2; have B2 := Lib.hid b2; clear o2 b2; subst hv2)
    have U2 : Hid (Up w w2) := Up.trans U1.out (Below.trans V1.out B2.out)
    refine (HH.out w2 U2.out).mono ?_
    rintro e w3 ⟨rfl, u3⟩
    have U3 : Hid (Up w w3) := Up.trans U2.out u3
    have O3 := Lib.hid (O2.out.up u3)
    have hsz : w1.heap.size ≤ w3.heap.size := Nat.le_trans (Nat.le_trans V1.out.size B2.out.size) u3.size
    have S3 := Lib.hid hsz
    clear u3 hsz
    go_wp2_with (first | (refine wpList_buildTo rfl 37 _ rfl (some 52) rfl D (by simpa [Act.eval] using BUILT.out) ?_) | (refine wpList_buildSlice rfl 22 37 1 #[(0, .tmp 52)] rfl D ii zz rfl HI.out HZ.out (by rw [HI1.out]; decide) (by rw [HI1.out]; decide) (by simp only [List.map_toArray, List.map_cons, List.map_nil]; exact fill_link (zz := zz) HI1.out D HDS.out) ?_) | (refine wpList_named ?_; intro W4 hW4; at_builtin; (have hu : Up w3 W4 := by (rw [hW4]; exact (Up.refl w3).alloc _)); (have hy : W4.heap[w3.heap.size]? = some (.cells D 37 (0, 0)) := by (rw [hW4]; exact heap_new rfl)); have V4 := Lib.hid hu; have Y4 := Lib.hid hy; clear hW4 hu hy; refine wpList_appL rfl (.tmp 45) (.tmp 53) rfl rfl w1.heap.size _ ls [x] _ 1 [D.toList] rfl rfl rfl (by have := HN.out; omega) (O3.out.up V4.out) HFN.out (src_one' HXP.out (HLV.out.up (Up.trans U3.out V4.out)) Y4.out 1) (Nat.le_trans S3.out V4.out.size) ?_; intro v5 w5 o5 b5; obtain ⟨p5, c5, hv5⟩ := o5.form; have O5 := Lib.hid o5; have B5 := Lib.hid b5; clear o5 b5; subst hv5))
    have hlow : w.heap.size ≤ w1.heap.size := U1.out.size
    have U5 : Hid (Up w w5) := Below.trans U3.out ((V4.out.mono S3.out).trans B5.out |>.mono hlow)
    have hpr : ∀ y ∈ ls ++ [x], y.prev.length = 32 := by
      intro y hy
      rcases List.mem_append.1 hy with hy | hy
      · exact (HFF.out.2 y hy).prev
      · rw [List.mem_singleton.1 hy]; exact HXP.out
    obtain ⟨p6, c6, e6, g1, g2, g3⟩ := O5.out.links hpr (fun k hk => U5.out.block k hk)
    injection e6 with e7 _ e8
    subst e7 e8
    have hln : (ls ++ [x]).length = 0 + 1 := by rw [List.length_append, ← HN.out]; rfl
    rw [hln] at g1
    go_ret2
    exact ⟨p5, c5, by rw [← HN.out] <;> rfl, U5.out, g1, g2, g3⟩

end Go.Proofs.YtpafambdccejnaaDoor
