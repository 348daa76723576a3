/- a link of an own row is replaced; a link that came in by value. -/
import Derived.Test.YtpafambdccejnaaDoorL8Plain
namespace Go.Proofs.YtpafambdccejnaaDoor
open Go.ChangeShapes Go.WideShapes Go.ChangeAt Go.RowKit
set_option linter.unusedVariables false

theorem own_set {w0 W : World} {base n c k : Nat} {p : Option Addr} {ls : List Lk} {x : Lk} {D : Array Value} (hn : n = ls.length) (hb : w0.heap.size ≤ base) (hk0 : ∀ j, j < w0.heap.size → W.heap[j]? = w0.heap[j]?) (hown : OwnK w0 W base (.slice p n c) ls) (hp : ∀ y ∈ ls, y.prev.length = 32) (hx : x.prev.length = 32) (hk : k < n) (hv : LkV w0 D.toList x) :
    ∃ g, p = some ⟨g, 0, none⟩ ∧ W.there g (0 + k * 35) D.size ∧ ∀ W', W' = W.setCells g (0 + k * 35) D.toList → Below base W W' ∧ Links W' (some ⟨g, 0, none⟩) (ls.set k x) ∧ W'.os = W.os := by
  obtain ⟨css, hF, hown⟩ := hown
  have h35 := hF.all hp
  have hlen := flatten_len35 css h35
  have hDs : D.size = 35 := by have := hv.len hx; simpa using this
  rcases hown.2 with ⟨e, hz⟩ | ⟨g, cap, cur, e, hbg, hg, hnc, hcm, hcs, htake⟩
  · omega
  injection e with e1 e2 e3
  subst e1
  refine ⟨g, rfl, fun j hj => ?_, fun W' hW' => ?_⟩
  · have hlt : 0 + k * 35 + j < cur.size := by
      rw [hcs]
      have : (k + 1) * 35 ≤ cap * 35 := Nat.mul_le_mul_right _ (by omega)
      omega
    refine ⟨?_, free_row hg _⟩
    rw [cell_of_row W g _ _ _ _ hg, Array.getElem?_eq_getElem hlt]; rfl
  · have hc := chg_setCells g D.toList (0 + k * 35) W
    have hbl : Below base W W' := by
      rw [hW']
      exact ⟨hc.os, hc.tape, hc.output, hc.size, fun j hj => hc.block j (by have := lt_of_block hg; omega) (by omega)⟩
    refine ⟨hbl, fun _ => ⟨g, 0, rfl, fun i hi => ?_⟩, by rw [hW']; exact hc.os⟩
    have hi2 : i < ls.length := by simpa using hi
    have hkk : ∀ j, j < w0.heap.size → W'.heap[j]? = w0.heap[j]? := fun j hj => (hbl.block j (by omega)).trans (hk0 j hj)
    have hth : W.there g (0 + k * 35) D.toList.length := by
      intro j hj
      have hlt : 0 + k * 35 + j < cur.size := by
        rw [hcs]
        have : (k + 1) * 35 ≤ cap * 35 := Nat.mul_le_mul_right _ (by omega)
        simp at hj
        omega
      refine ⟨?_, free_row hg _⟩
      rw [cell_of_row W g _ _ _ _ hg, Array.getElem?_eq_getElem hlt]; rfl
    by_cases hik : i = k
    · subst hik
      rw [List.getElem_set_self]
      refine ⟨D.toList, hv.kept hkk, ?_⟩
      rw [hW']
      exact World.rangeAt_setCells_same W g _ _ hth
    · rw [List.getElem_set_ne (by omega)]
      have hci : i < css.length := by rw [hF.len]; exact hi2
      refine ⟨css[i], (hF.at' i hi2 hci).kept hkk, ?_⟩
      have hr : W.rangeAt g (0 + i * 35) css[i] := fun j u hu => by
        have hj : j < 35 := by rw [← h35 _ (List.getElem_mem hci)]; exact (List.getElem?_eq_some_iff.1 hu).1
        have := hown.cells (g := g) rfl (i * 35 + j) u (by rw [flatten_get35 css i j h35 hci hj]; exact hu)
        rw [Addr.add_mid] at this
        rw [show 0 + i * 35 + j = 0 + (i * 35 + j) by omega]; exact this
      rw [hW']
      refine World.rangeAt_setCells_apart hr g _ _ (.inr ?_)
      have h1 := h35 _ (List.getElem_mem hci)
      have h2 : D.toList.length = 35 := by simpa using hDs
      rw [h1, h2]
      rcases Nat.lt_or_ge i k with h | h
      · left; omega
      · right; omega

theorem wpList_store_arr {P : Program} {ops : Array Oper} {rest : List Oper} {o : Oper} {a : Act} {w : World} {Q : Exit → Act → World → Prop} (hgd : o.guard = none) (ty : TypeId) (x y : Operand) (ho : o.op = .store ty x y)
    (b off : Nat) (cells : Array Value) (hx : a.eval x = .pointer (some ⟨b, off, none⟩)) (hy : a.eval y = .agg cells)
    (ht : w.there b off cells.size) (hi : (P.info? ty).map (·.size) = some cells.size) (h1 : cells.all (·.oneCell') = true)
    (h : ∀ W, W = w.setCells b off cells.toList → wpList P ops Q rest (a.put o.dst undef) W) : wpList P ops Q (o :: rest) a w :=
  wpList_store_mid hgd ty x y ho b off cells hx hy ht hi h1 (h _ rfl)

/-- a link by value -/
theorem open_link {H : Type} {enc : TypeId × Value → H} {W : World} {r : Reach} {b0 base : Nat} {spare : Nat → Bool} {held : Bool} {v : Value} {d : DataW H} {p : List MemPlace} (hv : Value.okWide Tryd.prog W r b0 37 v) (h : DataW.Trod enc Tryd.prog W base spare held 37 v d p) :
    ∃ D x, v = .agg D ∧ x.wf ∧ LkV W D.toList x := by
  obtain ⟨cs, rfl, hsz⟩ := okWide_struct Tryd.underlying37 hv
  obtain ⟨fuel, hf⟩ := h
  obtain ⟨lk, h1, h2⟩ := open_lk hf
  exact ⟨cs, lk, rfl, h1, h2⟩

end Go.Proofs.YtpafambdccejnaaDoor
