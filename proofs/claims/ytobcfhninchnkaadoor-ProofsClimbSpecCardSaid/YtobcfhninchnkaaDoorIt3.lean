/- A RANGE OVER A FUNCTION, where what is handed out is known by a relation, and the iterator owns blocks that it makes on its way (O). It names no program. -/
import Derived.Test.YtobcfhninchnkaaDoorIter
import Derived.Shelf.Abstract
import Derived.Shelf.RegionOpen
import Derived.OwnWalkIn
import Derived.TacticsInMore
import Derived.LoopNIn
import Derived.LoopIn
namespace Go.Proofs.YtobcfhninchnkaaDoor
open Go Go.RowKit
set_option linter.unusedVariables false

/-- THE CONTRACT OF AN ITERATOR VALUE that hands out xs (E: what is handed out for x); R: the elder blocks that it turns; K: the elder blocks that a round must leave; O: the blocks that it has made and still needs. -/
def IterGivesO {α : Type} (P : Program) (gf : Nat) (lb : Array Value) (E : (Nat → Prop) → α → Array Value → World → Prop) (R K : Nat → Prop) (xs : List α) (Init : World → Prop) : Prop :=
  ∀ (n l : Nat) (J Jx : (Nat → Prop) → List α → World → Prop) (W : World), Init W →
    (∀ (O O' : Nat → Prop) s A B, J O s A → (∀ k, O' k → O k ∨ A.heap.size ≤ k) → Chg (fun k => R k ∨ O k) A B → J O' s B) →
    (∀ (O O' : Nat → Prop) s A B, Jx O s A → (∀ k, O' k → O k ∨ A.heap.size ≤ k) → Chg (fun k => R k ∨ O k) A B → Jx O' s B) →
    (∀ (O : Nat → Prop) pre x rest W1 args, xs = pre ++ x :: rest → J O pre W1 → E O x args W1 → YieldAt Fence.wide (n - 1) P l args W1 fun e W' =>
      (e = .returned (.bool true) ∧ J O (pre ++ [x]) W' ∧ W1.heap.size ≤ W'.heap.size ∧ ∀ k, K k ∨ O k → k < W1.heap.size → W'.heap[k]? = W1.heap[k]?) ∨ (e = .returned (.bool false) ∧ Jx O (pre ++ [x]) W' ∧ W1.heap.size ≤ W'.heap.size ∧ ∀ k, K k ∨ O k → k < W1.heap.size → W'.heap[k]? = W1.heap[k]?)) →
    J (fun _ => False) [] W →
    CallsIn Fence.wide n P gf (#[.func (.yield l) #[] #[]] ++ lb) W fun e W' => (∃ v, e = .returned v) ∧ ((∃ O, J O xs W') ∨ ∃ O pre rest, xs = pre ++ rest ∧ Jx O pre W')

/-- HOW THE BODY OF A ROUND MAY BE LEFT. -/
def bodyPostO {α : Type} (K : Nat → Prop) (h : Nat) (O : Nat → Prop) (I : (Nat → Prop) → List α → World → Prop) (Ix : Code → (Nat → Prop) → List α → World → Prop) (xs : List α) (W : World) : Exit → Act → World → Prop
  | .normal, _, W' => Chg (fun k => ¬ K k ∧ ¬ O k ∧ k ≠ h ∧ k ≠ h + 1) W W' ∧ I O xs W'
  | .ret, _, W' => Chg (fun k => ¬ K k ∧ ¬ O k ∧ k ≠ h ∧ k ≠ h + 1) W W' ∧ Ix .ret O xs W'
  | .exit id, _, W' => Chg (fun k => ¬ K k ∧ ¬ O k ∧ k ≠ h ∧ k ≠ h + 1) W W' ∧ Ix (.exit id) O xs W'
  | .goto t, _, W' => Chg (fun k => ¬ K k ∧ ¬ O k ∧ k ≠ h ∧ k ≠ h + 1) W W' ∧ Ix (.goto t) O xs W'
  | .panic _, _, _ => False
  | .outgrown, _, _ => False

/-- **THE CALLER's LAW.** -/
theorem wpIn_range3 {α : Type} {P : Program} {n : Nat} {g : Operand} {ps : Array Tmp} {assign body : Code} {Q : Exit → Act → World → Prop} {a : Act} {w : World}
    {gf : Nat} {lb : Array Value} (hg : a.eval g = .func (.func gf) #[] lb) (eg : ∀ args w, (callFunc gf args).run P w = .ok (.enter gf args) w)
    {E : (Nat → Prop) → α → Array Value → World → Prop} (hps : ∀ O x args W, E O x args W → args.size = ps.size) {R K : Nat → Prop} {xs : List α} {Init : World → Prop} (hseq : IterGivesO P gf lb E R K xs Init)
    (hR : ∀ k, R k → k ≠ w.heap.size ∧ k ≠ w.heap.size + 1) (hK : ∀ k, K k → k < w.heap.size)
    (hInit : ∀ W, Chg (fun _ => False) w W → Init W)
    (I : (Nat → Prop) → List α → World → Prop) (Ix : Code → (Nat → Prop) → List α → World → Prop)
    (hI : ∀ (O O' : Nat → Prop) s A B, I O s A → (∀ k, O k → w.heap.size + 2 ≤ k) → (∀ k, O' k → O k ∨ A.heap.size ≤ k) → Chg (fun k => R k ∨ O k ∨ k = w.heap.size ∨ k = w.heap.size + 1) A B → I O' s B)
    (hIx : ∀ c (O O' : Nat → Prop) s A B, Ix c O s A → (∀ k, O k → w.heap.size + 2 ≤ k) → (∀ k, O' k → O k ∨ A.heap.size ≤ k) → Chg (fun k => R k ∨ O k ∨ k = w.heap.size ∨ k = w.heap.size + 1) A B → Ix c O' s B)
    (h0 : I (fun _ => False) [] w) (A₁ : (Nat → Prop) → α → Act → World → Prop)
    (hA : ∀ O x a A B, A₁ O x a A → w.heap.size + 1 < A.heap.size → Chg (fun k => k = w.heap.size + 1) A B → A₁ O x a B)
    (hassign : ∀ (l : Nat) (O : Nat → Prop) (pre : List α) (x : α) (rest : List α) (W : World) (args : Array Value) (K' : Act → World → Prop), xs = pre ++ x :: rest → I O pre W → E O x args W → w.heap.size + 1 < W.heap.size → (∀ cs t fr, W.heap[w.heap.size]? ≠ some (.cells cs t fr)) → (∀ cs t fr, W.heap[w.heap.size + 1]? ≠ some (.cells cs t fr)) → (∀ a' W', Chg (fun _ => False) W W' → A₁ O x a' W' → K' a' W') →
      assign.wpIn (Fence.wide.inRound l) (n - 1 - 1) P (Exit.then K' (fun _ _ _ => False)) { tmps := (ps.zip args).foldl (fun t (p, v) => t.setIfInBounds p v) a.tmps, defers := [] } W)
    (hbody : ∀ (l : Nat) (O : Nat → Prop) (pre : List α) (x : α) (rest : List α) (a' : Act) (W : World), (∀ k, O k → w.heap.size + 2 ≤ k) → xs = pre ++ x :: rest → I O pre W → A₁ O x a' W → w.heap.size + 1 < W.heap.size →
      body.wpIn (Fence.wide.inRound l) (n - 1 - 1) P (bodyPostO K w.heap.size O I Ix (pre ++ [x]) W) a' W)
    (hdone : ∀ (O : Nat → Prop) (W : World), I O xs W → (∀ k, O k → w.heap.size + 2 ≤ k) → w.heap.size + 1 < W.heap.size → W.heap[w.heap.size]? = some (.deferred (some [])) → Q .normal { a with defers := { target := .collected w.heap.size, args := #[] } :: a.defers } W)
    (hstop : ∀ (c : Code) (O : Nat → Prop) (pre rest : List α) (W : World), xs = pre ++ rest → Ix c O pre W → w.heap.size + 1 < W.heap.size → W.heap[w.heap.size]? = some (.deferred (some [])) → c.wpIn Fence.wide n P Q { a with defers := { target := .collected w.heap.size, args := #[] } :: a.defers } W) :
    (Code.rangeFunc g ps assign body).wpIn Fence.wide n P Q a w := by
  refine wpIn_rangeFunc ?_
  intro fn hfn
  obtain ⟨rec, hrec⟩ : ∃ rec : LoopState → Option Code → Loop, rec = fun st pe => { state := st, pending := pe, fn, tmps := a.tmps, params := ps, assign, body, defers := w.heap.size } := ⟨_, rfl⟩
  obtain ⟨W1, hW1⟩ : ∃ W1, (w.alloc (.deferred (some []))).alloc (.loop (rec .ready none)) = W1 := ⟨_, rfl⟩
  have hL1 : W1.heap[w.heap.size + 1]? = some (.loop (rec .ready none)) := by
    rw [← hW1]; have := World.alloc_heap_new (w.alloc (.deferred (some []))) (.loop (rec .ready none)); rwa [World.size_alloc] at this
  have hK1 : W1.heap[w.heap.size]? = some (.deferred (some [])) := by
    rw [← hW1]; exact (Below.heap_alloc _ _ _ (by simp)).trans (World.alloc_heap_new w _)
  have hC1 : ∀ S', Chg S' w W1 := fun S' => by rw [← hW1]; exact ((Chg.refl S' w).alloc _).alloc _
  have hS1 : W1.heap.size = w.heap.size + 2 := by rw [← hW1]; simp
  refine ⟨w.heap.size + 1, [{ target := .collected w.heap.size, args := #[] }], W1, { target := .fn (.func gf) lb, args := #[.func (.yield (w.heap.size + 1)) #[] #[]] }, W1, gf,
    #[.func (.yield (w.heap.size + 1)) #[] #[]] ++ lb, W1, ?_, ?_, ?_, ?_, fun h => by simp [Fence.wide] at h, ?_⟩
  · rw [← hW1, hrec]; exact run_enterLoop_outer _ _ _ _ _
  · simp only [resolve, hg]
    simp [go_sem]
  · intro f' _; exact trivial
  · simp [invoke, go_sem, eg]
  · have hnR1 : ¬ R (w.heap.size + 1) := fun h => (hR _ h).2 rfl
    have hnR0 : ¬ R w.heap.size := fun h => (hR _ h).1 rfl
    refine (hseq (n - 1) (w.heap.size + 1)
      (fun O pre W => (I O pre W ∧ ∀ k, O k → w.heap.size + 2 ≤ k) ∧ W.heap[w.heap.size + 1]? = some (.loop (rec .ready none)) ∧ W.heap[w.heap.size]? = some (.deferred (some [])))
      (fun O pre W => ∃ c, (Ix c O pre W ∧ ∀ k, O k → w.heap.size + 2 ≤ k) ∧ W.heap[w.heap.size + 1]? = some (.loop (rec .done (some c))) ∧ W.heap[w.heap.size]? = some (.deferred (some [])))
      W1 (hInit W1 (hC1 _)) ?_ ?_ ?_ ⟨⟨hI _ _ _ _ _ h0 (fun k h => h.elim) (fun k h => h.elim) (hC1 _), fun k h => h.elim⟩, hL1, hK1⟩).mono ?_
    · rintro O O' s A B ⟨⟨hi, hO⟩, hl, hk⟩ hg hc
      have hlA : w.heap.size + 1 < A.heap.size := (Array.getElem?_eq_some_iff.1 hl).1
      exact ⟨⟨hI O O' _ _ _ hi hO hg (hc.mono fun _ _ h => h.elim .inl (fun h => .inr (.inl h))), fun k h => (hg k h).elim (hO k) (fun h => by omega)⟩, (hc.block _ hlA (fun h => h.elim hnR1 (fun h => by have := hO _ h; omega))).trans hl, (hc.block _ (by omega) (fun h => h.elim hnR0 (fun h => by have := hO _ h; omega))).trans hk⟩
    · rintro O O' s A B ⟨c, ⟨hi, hO⟩, hl, hk⟩ hg hc
      have hlA : w.heap.size + 1 < A.heap.size := (Array.getElem?_eq_some_iff.1 hl).1
      exact ⟨c, ⟨hIx c O O' _ _ _ hi hO hg (hc.mono fun _ _ h => h.elim .inl (fun h => .inr (.inl h))), fun k h => (hg k h).elim (hO k) (fun h => by omega)⟩, (hc.block _ hlA (fun h => h.elim hnR1 (fun h => by have := hO _ h; omega))).trans hl, (hc.block _ (by omega) (fun h => h.elim hnR0 (fun h => by have := hO _ h; omega))).trans hk⟩
    · -- ONE ROUND
      rintro O pre x rest W args hxs ⟨⟨hi, hO⟩, hl, hk⟩ hE
      have hlt : w.heap.size + 1 < W.heap.size := (Array.getElem?_eq_some_iff.1 hl).1
      have hy := run_yield (P := P) (args := args) hl (by rw [hrec]; exact hps O x args W hE)
      rw [hrec] at hy
      refine ⟨fn, _, assign, body, hy, roundIn_of_wpIn hfn (hassign _ O pre x rest W args _ hxs hi hE hlt (fun cs t fr e => by rw [hk] at e; cases e) (fun cs t fr e => by rw [hl] at e; cases e) ?_)⟩
      intro a' Wa hCa hAa
      have hla : Wa.heap[w.heap.size + 1]? = some (.loop (rec .ready none)) := (hCa.block _ hlt (fun h => h)).trans hl
      have hka : Wa.heap[w.heap.size]? = some (.deferred (some [])) := (hCa.block _ (by omega) (fun h => h)).trans hk
      have hlta : w.heap.size + 1 < Wa.heap.size := Nat.lt_of_lt_of_le hlt hCa.size
      refine ⟨_, run_beginRound hla (by rw [hrec]), ?_⟩
      have hl2 : (Wa.putObj (w.heap.size + 1) (.loop { rec .ready none with state := .busy })).heap[w.heap.size + 1]? = some (.loop { rec .ready none with state := .busy }) := World.putObj_heap_same hlta
      have hk2 : (Wa.putObj (w.heap.size + 1) (.loop { rec .ready none with state := .busy })).heap[w.heap.size]? = some (.deferred (some [])) := (World.putObj_heap_other (by omega)).trans hka
      have hia : I O pre Wa := hI _ _ _ _ _ hi hO (fun k h => .inl h) (hCa.mono fun _ _ h => h.elim)
      refine wpIn_mono (hbody _ O pre x rest a' _ hO hxs (hI _ _ _ _ _ hia hO (fun k h => .inl h) (Chg.putObj' _ _ (.inr (.inr (.inr rfl))))) (hA _ _ _ _ _ hAa hlta (Chg.putObj' _ _ rfl)) (by simpa using hlta)) ?_
      have fin : ∀ (jump : Option Code) (W3 : World), Chg (fun k => ¬ K k ∧ ¬ O k ∧ k ≠ w.heap.size ∧ k ≠ w.heap.size + 1) (Wa.putObj (w.heap.size + 1) (.loop { rec .ready none with state := .busy })) W3 →
          (Instr.endRound (w.heap.size + 1) jump).run P W3 = .ok (.bool jump.isNone) (W3.putObj (w.heap.size + 1) (.loop (rec (if jump.isNone then .ready else .done) jump))) ∧
          (W3.putObj (w.heap.size + 1) (.loop (rec (if jump.isNone then .ready else .done) jump))).heap[w.heap.size + 1]? = some (.loop (rec (if jump.isNone then .ready else .done) jump)) ∧
          (W3.putObj (w.heap.size + 1) (.loop (rec (if jump.isNone then .ready else .done) jump))).heap[w.heap.size]? = some (.deferred (some [])) := fun jump W3 hk3 => by
        have hl3 := (hk3.block _ (by simpa using hlta) (fun h => h.2.2.2 rfl)).trans hl2
        have hk4 := (hk3.block _ (by simp; omega) (fun h => h.2.2.1 rfl)).trans hk2
        have := run_endRound (P := P) jump hl3
        rw [hrec] at this ⊢
        exact ⟨this, World.putObj_heap_same (Array.getElem?_eq_some_iff.1 hl3).1, (World.putObj_heap_other (by omega)).trans hk4⟩
      have keep : ∀ (o : Obj) (W3 : World), Chg (fun k => ¬ K k ∧ ¬ O k ∧ k ≠ w.heap.size ∧ k ≠ w.heap.size + 1) (Wa.putObj (w.heap.size + 1) (.loop { rec .ready none with state := .busy })) W3 →
          W.heap.size ≤ (W3.putObj (w.heap.size + 1) o).heap.size ∧ ∀ k, K k ∨ O k → k < W.heap.size → (W3.putObj (w.heap.size + 1) o).heap[k]? = W.heap[k]? := fun o W3 hk3 => by
        refine ⟨?_, ?_⟩
        · have h5 := hk3.size; have h6 := hCa.size; simp at h5 ⊢; omega
        · intro k hkk hkW
          have hne : k ≠ w.heap.size + 1 := by
            rcases hkk with h | h
            · have := hK k h; omega
            · have := hO k h; omega
          rw [World.putObj_heap_other hne]
          refine (hk3.block k (by have := hCa.size; simp; omega) (fun hs => hkk.elim hs.1 hs.2.1)).trans ?_
          rw [World.putObj_heap_other hne]
          exact hCa.block k hkW (fun h => h)
      rintro e a3 W3 hp
      cases e with
      | normal =>
        obtain ⟨hk3, hi3⟩ := hp
        obtain ⟨hr, hl4, hk4⟩ := fin none W3 hk3
        refine ⟨_, _, hr, .inl ⟨rfl, ⟨⟨hI _ _ _ _ _ hi3 hO (fun k h => .inl h) (Chg.putObj' _ _ (.inr (.inr (.inr rfl)))), hO⟩, hl4, hk4⟩, keep _ W3 hk3⟩⟩
      | ret =>
        obtain ⟨hk3, hi3⟩ := hp
        obtain ⟨hr, hl4, hk4⟩ := fin (some .ret) W3 hk3
        exact ⟨_, _, hr, .inr ⟨rfl, ⟨.ret, ⟨hIx _ _ _ _ _ _ hi3 hO (fun k h => .inl h) (Chg.putObj' _ _ (.inr (.inr (.inr rfl)))), hO⟩, hl4, hk4⟩, keep _ W3 hk3⟩⟩
      | exit id =>
        obtain ⟨hk3, hi3⟩ := hp
        obtain ⟨hr, hl4, hk4⟩ := fin (some (.exit id)) W3 hk3
        exact ⟨_, _, hr, .inr ⟨rfl, ⟨.exit id, ⟨hIx _ _ _ _ _ _ hi3 hO (fun k h => .inl h) (Chg.putObj' _ _ (.inr (.inr (.inr rfl)))), hO⟩, hl4, hk4⟩, keep _ W3 hk3⟩⟩
      | goto t =>
        obtain ⟨hk3, hi3⟩ := hp
        obtain ⟨hr, hl4, hk4⟩ := fin (some (.goto t)) W3 hk3
        exact ⟨_, _, hr, .inr ⟨rfl, ⟨.goto t, ⟨hIx _ _ _ _ _ _ hi3 hO (fun k h => .inl h) (Chg.putObj' _ _ (.inr (.inr (.inr rfl)))), hO⟩, hl4, hk4⟩, keep _ W3 hk3⟩⟩
      | panic ch => exact hp.elim
      | outgrown => exact hp.elim
    · -- BEHIND THE ITERATOR
      rintro e W2 ⟨⟨v, rfl⟩, (⟨O, ⟨hi, hO⟩, hl, hk⟩ | ⟨O, pre, rest, hxs, c, ⟨hi, hO⟩, hl, hk⟩)⟩
      · have hlt : w.heap.size + 1 < W2.heap.size := (Array.getElem?_eq_some_iff.1 hl).1
        exact ⟨none, _, by have := run_endLoop (P := P) hl (by rw [hrec]; simp); rw [hrec] at this; exact this, hdone O _ (hI _ _ _ _ _ hi hO (fun k h => .inl h) (Chg.putObj' _ _ (.inr (.inr (.inr rfl))))) hO (by simpa using hlt) ((World.putObj_heap_other (by omega)).trans hk)⟩
      · have hlt : w.heap.size + 1 < W2.heap.size := (Array.getElem?_eq_some_iff.1 hl).1
        exact ⟨some c, _, by have := run_endLoop (P := P) hl (by rw [hrec]; simp); rw [hrec] at this; exact this, hstop c O pre rest _ hxs (hIx _ _ _ _ _ _ hi hO (fun k h => .inl h) (Chg.putObj' _ _ (.inr (.inr (.inr rfl))))) (by simpa using hlt) ((World.putObj_heap_other (by omega)).trans hk)⟩

end Go.Proofs.YtobcfhninchnkaaDoor
