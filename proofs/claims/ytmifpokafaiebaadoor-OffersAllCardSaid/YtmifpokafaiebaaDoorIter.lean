/- A RANGE OVER A FUNCTION WHOSE ITERATOR KEEPS STATE OF ITS OWN IN CELLS: one law for the caller, one form of contract for the iterator. It names no program. -/
import Derived.RangeFuncNested
import Derived.RangeFuncBound
import Derived.RangeFuncCalls
import Derived.RangeFuncLeaves
import Derived.WalkKit
namespace Go.Proofs.YtmifpokafaiebaaDoor
open Go Go.RowKit

/-- B is A but for new blocks and the blocks of S; the streams are as they were. -/
structure Chg (S : Nat → Prop) (A B : World) : Prop where
  os : B.os = A.os
  tape : B.tape = A.tape
  output : B.output = A.output
  size : A.heap.size ≤ B.heap.size
  block : ∀ k, k < A.heap.size → ¬ S k → B.heap[k]? = A.heap[k]?

theorem Chg.refl (S : Nat → Prop) (A : World) : Chg S A A := ⟨rfl, rfl, rfl, Nat.le_refl _, fun _ _ _ => rfl⟩
theorem Chg.trans {S : Nat → Prop} {A B C : World} (h : Chg S A B) (k : Chg S B C) : Chg S A C :=
  ⟨k.os.trans h.os, k.tape.trans h.tape, k.output.trans h.output, Nat.le_trans h.size k.size, fun i hi hs => (k.block i (Nat.lt_of_lt_of_le hi h.size) hs).trans (h.block i hi hs)⟩
theorem Chg.mono {S S' : Nat → Prop} {A B : World} (h : Chg S A B) (hs : ∀ k, k < A.heap.size → S k → S' k) : Chg S' A B :=
  ⟨h.os, h.tape, h.output, h.size, fun k hk hn => h.block k hk fun e => hn (hs k hk e)⟩
theorem Chg.alloc' (S : Nat → Prop) (A : World) (o : Obj) : Chg S A (A.alloc o) :=
  ⟨rfl, rfl, rfl, by simp, fun k hk _ => Below.heap_alloc _ _ _ hk⟩
theorem Chg.setCell' {S : Nat → Prop} (A : World) {p : Addr} (u : Value) (hp : S p.block) : Chg S A (A.setCell p u) :=
  ⟨rfl, rfl, rfl, by simp [World.setCell], fun k _ hn => Below.heap_setCell _ _ _ _ fun e => hn (e ▸ hp)⟩
theorem Chg.putObj' {S : Nat → Prop} (A : World) {l : Nat} (o : Obj) (hp : S l) : Chg S A (A.putObj l o) :=
  ⟨rfl, rfl, rfl, by simp, fun k _ hn => World.putObj_heap_other fun e => hn (e ▸ hp)⟩
theorem Chg.alloc {S : Nat → Prop} {A B : World} (h : Chg S A B) (o : Obj) : Chg S A (B.alloc o) := h.trans (Chg.alloc' S B o)
theorem Chg.setCell {S : Nat → Prop} {A B : World} (h : Chg S A B) {p : Addr} (hp : S p.block ∨ A.heap.size ≤ p.block) (u : Value) : Chg S A (B.setCell p u) :=
  ⟨h.os, h.tape, h.output, by simpa [World.setCell] using h.size, fun k hk hn => (Below.heap_setCell _ _ _ _ fun e => by
    rcases hp with hp | hp
    · exact hn (e ▸ hp)
    · omega).trans (h.block k hk hn)⟩
theorem Chg.putObj {S : Nat → Prop} {A B : World} (h : Chg S A B) {l : Nat} (hp : S l ∨ A.heap.size ≤ l) (o : Obj) : Chg S A (B.putObj l o) :=
  ⟨h.os, h.tape, h.output, by simpa using h.size, fun k hk hn => (World.putObj_heap_other fun e => by
    rcases hp with hp | hp
    · exact hn (e ▸ hp)
    · omega).trans (h.block k hk hn)⟩
theorem Chg.drew {S : Nat → Prop} {A B : World} (h : Chg S A B) : Chg S A B.drew := ⟨h.os, h.tape, h.output, h.size, h.block⟩
theorem Chg.of_below {S : Nat → Prop} {A B C : World} (h : Chg S A B) (k : Below B.heap.size B C) : Chg S A C :=
  ⟨k.os.trans h.os, k.tape.trans h.tape, k.output.trans h.output, Nat.le_trans h.size k.size, fun i hi hs => (k.block i (Nat.lt_of_lt_of_le hi h.size)).trans (h.block i hi hs)⟩
theorem Chg.below {S : Nat → Prop} {A B : World} (h : Chg S A B) {n : Nat} (hn : n ≤ A.heap.size) (hs : ∀ k, k < n → ¬ S k) : Below n A B :=
  ⟨h.os, h.tape, h.output, h.size, fun k hk => h.block k (by omega) (hs k hk)⟩
theorem Chg.cell {S : Nat → Prop} {A B : World} (h : Chg S A B) {p : Addr} (hp : p.block < A.heap.size) (hs : ¬ S p.block) : B.cell? p = A.cell? p :=
  World.cell?_of_block (h.block _ hp hs)
theorem Chg.frozen {S : Nat → Prop} {A B : World} (h : Chg S A B) {p : Addr} (hp : p.block < A.heap.size) (hs : ¬ S p.block) : B.frozen? p = A.frozen? p :=
  World.frozen?_of_block (h.block _ hp hs)

/-- give the world a name -/
theorem wp_named {P : Program} {c : Code} {Q : Exit → Act → World → Prop} {a : Act} {w0 : World} (h : ∀ W, W = w0 → c.wp P Q a W) : c.wp P Q a w0 := h _ rfl

theorem wpList_named {P : Program} {ops : Array Oper} {Q : Exit → Act → World → Prop} {l : List Oper} {a : Act} {w0 : World} (h : ∀ W, W = w0 → wpList P ops Q l a W) : wpList P ops Q l a w0 := h _ rfl

theorem heap_alloc (w : World) (o : Obj) : (w.alloc o).heap = w.heap.push o := rfl
theorem heap_new {w : World} {o : Obj} {k : Nat} (h : k = w.heap.size) : (w.alloc o).heap[k]? = some o := by subst h; exact World.alloc_heap_new w o
theorem heap_old {w : World} {o : Obj} {k : Nat} (h : k < w.heap.size) : (w.alloc o).heap[k]? = w.heap[k]? := Below.heap_alloc w o k h

/-- B is A with new blocks. -/
def Up (A B : World) : Prop := Below A.heap.size A B
theorem Up.refl (A : World) : Up A A := Below.refl _ _
theorem Up.trans {A B C : World} (h : Up A B) (k : Up B C) : Up A C := Below.trans h (Below.mono k h.size)
theorem Up.alloc {A B : World} (h : Up A B) (o : Obj) : Up A (B.alloc o) := Below.alloc h h.size o
theorem Up.drew {A B : World} (h : Up A B) : Up A B.drew := Below.drew h
theorem Up.below {A B : World} (h : Up A B) : Below A.heap.size A B := h

/-- THE CONTRACT OF AN ITERATOR VALUE that hands out xs: R: the blocks that it turns between two rounds; K: the blocks that a round must leave. -/
def IterGives {α : Type} (P : Program) (gf : Nat) (lb : Array Value) (encs : α → Array Value) (R K : Nat → Prop) (xs : List α) (Init : World → Prop) : Prop :=
  ∀ (n l : Nat) (J Jx : List α → World → Prop) (W : World), Init W →
    (∀ s A B, J s A → Chg R A B → J s B) → (∀ s A B, Jx s A → Chg R A B → Jx s B) →
    (∀ pre x rest W1, xs = pre ++ x :: rest → J pre W1 → YieldAt Fence.wide (n - 1) P l (encs x) W1 fun e W' =>
      (e = .returned (.bool true) ∧ J (pre ++ [x]) W' ∧ W1.heap.size ≤ W'.heap.size ∧ ∀ k, K k → W'.heap[k]? = W1.heap[k]?) ∨ (e = .returned (.bool false) ∧ Jx (pre ++ [x]) W')) →
    J [] W →
    CallsIn Fence.wide n P gf (#[.func (.yield l) #[] #[]] ++ lb) W fun e W' => (∃ v, e = .returned v) ∧ (J xs W' ∨ ∃ pre rest, xs = pre ++ rest ∧ Jx pre W')

theorem wide_depth : Fence.wide.depth.isSome = false := rfl

/-- HOW THE BODY OF A ROUND MAY BE LEFT. -/
def bodyPostS {α : Type} (S : Nat → Prop) (I : List α → World → Prop) (Ix : Code → List α → World → Prop) (xs : List α) (W : World) : Exit → Act → World → Prop
  | .normal, _, W' => Chg S W W' ∧ I xs W'
  | .ret, _, W' => Chg S W W' ∧ Ix .ret xs W'
  | .exit id, _, W' => Chg S W W' ∧ Ix (.exit id) xs W'
  | .goto t, _, W' => Chg S W W' ∧ Ix (.goto t) xs W'
  | .panic _, _, _ => False
  | .outgrown, _, _ => False

/-- **THE CALLER's LAW.** -/
theorem wpIn_range {α : Type} {P : Program} {n : Nat} {g : Operand} {ps : Array Tmp} {assign body : Code} {Q : Exit → Act → World → Prop} {a : Act} {w : World}
    {gf : Nat} {lb : Array Value} (hg : a.eval g = .func (.func gf) #[] lb) (eg : ∀ args w, (callFunc gf args).run P w = .ok (.enter gf args) w)
    {encs : α → Array Value} (hps : ∀ x, (encs x).size = ps.size) {R K : Nat → Prop} {xs : List α} {Init : World → Prop} (hseq : IterGives P gf lb encs R K xs Init)
    (hR : ∀ k, R k → k ≠ w.heap.size ∧ k ≠ w.heap.size + 1) (hK : ∀ k, K k → k < w.heap.size)
    (S : Nat → Prop) (hS : ∀ k, S k → ¬ K k ∧ k ≠ w.heap.size ∧ k ≠ w.heap.size + 1)
    (hInit : ∀ W, Chg (fun _ => False) w W → Init W)
    (I : List α → World → Prop) (Ix : Code → List α → World → Prop)
    (hI : ∀ s A B, I s A → Chg (fun k => R k ∨ k = w.heap.size ∨ k = w.heap.size + 1) A B → I s B)
    (hIx : ∀ c s A B, Ix c s A → Chg (fun k => R k ∨ k = w.heap.size ∨ k = w.heap.size + 1) A B → Ix c s B)
    (h0 : I [] w) (a₁ : α → Act)
    (hassign : ∀ (l : Nat) (x : α) (W : World) (K : Act → World → Prop), K (a₁ x) W →
      assign.wpIn (Fence.wide.inRound l) (n - 1 - 1) P (Exit.then K (fun _ _ _ => False)) { tmps := (ps.zip (encs x)).foldl (fun t (p, v) => t.setIfInBounds p v) a.tmps, defers := [] } W)
    (hbody : ∀ (l : Nat) (pre : List α) (x : α) (rest : List α) (W : World), xs = pre ++ x :: rest → I pre W → w.heap.size + 1 < W.heap.size →
      body.wpIn (Fence.wide.inRound l) (n - 1 - 1) P (bodyPostS S I Ix (pre ++ [x]) W) (a₁ x) W)
    (hdone : ∀ (W : World), I xs W → w.heap.size + 1 < W.heap.size → W.heap[w.heap.size]? = some (.deferred (some [])) → Q .normal { a with defers := { target := .collected w.heap.size, args := #[] } :: a.defers } W)
    (hstop : ∀ (c : Code) (pre rest : List α) (W : World), xs = pre ++ rest → Ix c pre W → w.heap.size + 1 < W.heap.size → W.heap[w.heap.size]? = some (.deferred (some [])) → c.wpIn Fence.wide n P Q { a with defers := { target := .collected w.heap.size, args := #[] } :: a.defers } W) :
    (Code.rangeFunc g ps assign body).wpIn Fence.wide n P Q a w := by
  refine wpIn_rangeFunc ?_
  intro fn hfn
  obtain ⟨rec, hrec⟩ : ∃ rec : LoopState → Option Code → Loop, rec = fun st pe => { state := st, pending := pe, fn, tmps := a.tmps, params := ps, assign, body, defers := w.heap.size } := ⟨_, rfl⟩
  obtain ⟨W1, hW1⟩ : ∃ W1, (w.alloc (.deferred (some []))).alloc (.loop (rec .ready none)) = W1 := ⟨_, rfl⟩
  have hL1 : W1.heap[w.heap.size + 1]? = some (.loop (rec .ready none)) := by
    rw [← hW1]; have := World.alloc_heap_new (w.alloc (.deferred (some []))) (.loop (rec .ready none)); rwa [World.size_alloc] at this
  have hK1 : W1.heap[w.heap.size]? = some (.deferred (some [])) := by
    rw [← hW1]; exact (Below.heap_alloc _ _ _ (by simp)).trans (World.alloc_heap_new w _)
  have hC1 : ∀ S', Chg S' w W1 := fun S' => by rw [← hW1]; exact ((Chg.refl S' w).alloc _).alloc _
  refine ⟨w.heap.size + 1, [{ target := .collected w.heap.size, args := #[] }], W1, { target := .fn (.func gf) lb, args := #[.func (.yield (w.heap.size + 1)) #[] #[]] }, W1, gf,
    #[.func (.yield (w.heap.size + 1)) #[] #[]] ++ lb, W1, ?_, ?_, ?_, ?_, fun h => by simp [Fence.wide] at h, ?_⟩
  · rw [← hW1, hrec]; exact run_enterLoop_outer _ _ _ _ _
  · simp only [resolve, hg]
    simp [go_sem]
  · intro f' _; exact trivial
  · simp [invoke, go_sem, eg]
  · have hnR1 : ¬ R (w.heap.size + 1) := fun h => (hR _ h).2 rfl
    have hnR0 : ¬ R w.heap.size := fun h => (hR _ h).1 rfl
    refine (hseq (n - 1) (w.heap.size + 1)
      (fun pre W => I pre W ∧ W.heap[w.heap.size + 1]? = some (.loop (rec .ready none)) ∧ W.heap[w.heap.size]? = some (.deferred (some [])))
      (fun pre W => ∃ c, Ix c pre W ∧ W.heap[w.heap.size + 1]? = some (.loop (rec .done (some c))) ∧ W.heap[w.heap.size]? = some (.deferred (some [])))
      W1 (hInit W1 (hC1 _)) ?_ ?_ ?_ (And.intro (hI _ _ _ h0 (hC1 _)) (And.intro hL1 hK1))).mono ?_
    · rintro s A B ⟨hi, hl, hk⟩ hc
      exact ⟨hI _ _ _ hi (hc.mono fun _ _ h => .inl h), (hc.block _ (Array.getElem?_eq_some_iff.1 hl).1 hnR1).trans hl, (hc.block _ (Array.getElem?_eq_some_iff.1 hk).1 hnR0).trans hk⟩
    · rintro s A B ⟨c, hi, hl, hk⟩ hc
      exact ⟨c, hIx c _ _ _ hi (hc.mono fun _ _ h => .inl h), (hc.block _ (Array.getElem?_eq_some_iff.1 hl).1 hnR1).trans hl, (hc.block _ (Array.getElem?_eq_some_iff.1 hk).1 hnR0).trans hk⟩
    · -- ONE ROUND
      rintro pre x rest W hxs ⟨hi, hl, hk⟩
      have hlt : w.heap.size + 1 < W.heap.size := (Array.getElem?_eq_some_iff.1 hl).1
      have hy := run_yield (P := P) (args := encs x) hl (by rw [hrec]; exact hps x)
      rw [hrec] at hy
      refine ⟨fn, _, assign, body, hy, roundIn_of_wpIn hfn (hassign _ x W _ ⟨_, run_beginRound hl (by rw [hrec]), ?_⟩)⟩
      have hl2 : (W.putObj (w.heap.size + 1) (.loop { rec .ready none with state := .busy })).heap[w.heap.size + 1]? = some (.loop { rec .ready none with state := .busy }) := World.putObj_heap_same hlt
      have hk2 : (W.putObj (w.heap.size + 1) (.loop { rec .ready none with state := .busy })).heap[w.heap.size]? = some (.deferred (some [])) := (World.putObj_heap_other (by omega)).trans hk
      refine wpIn_mono (hbody _ pre x rest _ hxs (hI _ _ _ hi (Chg.putObj' _ _ (.inr (.inr rfl)))) (by simpa using hlt)) ?_
      have hnS1 : ¬ S (w.heap.size + 1) := fun h => (hS _ h).2.2 rfl
      have hnS0 : ¬ S w.heap.size := fun h => (hS _ h).2.1 rfl
      have fin : ∀ (jump : Option Code) (W3 : World), Chg S (W.putObj (w.heap.size + 1) (.loop { rec .ready none with state := .busy })) W3 →
          (Instr.endRound (w.heap.size + 1) jump).run P W3 = .ok (.bool jump.isNone) (W3.putObj (w.heap.size + 1) (.loop (rec (if jump.isNone then .ready else .done) jump))) ∧
          (W3.putObj (w.heap.size + 1) (.loop (rec (if jump.isNone then .ready else .done) jump))).heap[w.heap.size + 1]? = some (.loop (rec (if jump.isNone then .ready else .done) jump)) ∧
          (W3.putObj (w.heap.size + 1) (.loop (rec (if jump.isNone then .ready else .done) jump))).heap[w.heap.size]? = some (.deferred (some [])) := fun jump W3 hk3 => by
        have hl3 := (hk3.block _ (by simpa using hlt) hnS1).trans hl2
        have hk4 := (hk3.block _ (by simp; omega) hnS0).trans hk2
        have := run_endRound (P := P) jump hl3
        rw [hrec] at this ⊢
        exact ⟨this, World.putObj_heap_same (Array.getElem?_eq_some_iff.1 hl3).1, (World.putObj_heap_other (by omega)).trans hk4⟩
      rintro e a3 W3 hp
      cases e with
      | normal =>
        obtain ⟨hk3, hi3⟩ := hp
        obtain ⟨hr, hl4, hk4⟩ := fin none W3 hk3
        refine ⟨_, _, hr, .inl ⟨rfl, ⟨hI _ _ _ hi3 (Chg.putObj' _ _ (.inr (.inr rfl))), hl4, hk4⟩, ?_, ?_⟩⟩
        · have := hk3.size; simpa using this
        · intro k hkk
          have hlk := hK k hkk
          rw [World.putObj_heap_other (by omega)]
          refine (hk3.block k (by simp; omega) (fun hs => (hS k hs).1 hkk)).trans ?_
          exact World.putObj_heap_other (by omega)
      | ret =>
        obtain ⟨hk3, hi3⟩ := hp
        obtain ⟨hr, hl4, hk4⟩ := fin (some .ret) W3 hk3
        exact ⟨_, _, hr, .inr ⟨rfl, .ret, hIx _ _ _ _ hi3 (Chg.putObj' _ _ (.inr (.inr rfl))), hl4, hk4⟩⟩
      | exit id =>
        obtain ⟨hk3, hi3⟩ := hp
        obtain ⟨hr, hl4, hk4⟩ := fin (some (.exit id)) W3 hk3
        exact ⟨_, _, hr, .inr ⟨rfl, .exit id, hIx _ _ _ _ hi3 (Chg.putObj' _ _ (.inr (.inr rfl))), hl4, hk4⟩⟩
      | goto t =>
        obtain ⟨hk3, hi3⟩ := hp
        obtain ⟨hr, hl4, hk4⟩ := fin (some (.goto t)) W3 hk3
        exact ⟨_, _, hr, .inr ⟨rfl, .goto t, hIx _ _ _ _ hi3 (Chg.putObj' _ _ (.inr (.inr rfl))), hl4, hk4⟩⟩
      | panic ch => exact hp.elim
      | outgrown => exact hp.elim
    · -- BEHIND THE ITERATOR
      rintro e W2 ⟨⟨v, rfl⟩, (⟨hi, hl, hk⟩ | ⟨pre, rest, hxs, c, hi, hl, hk⟩)⟩
      · have hlt : w.heap.size + 1 < W2.heap.size := (Array.getElem?_eq_some_iff.1 hl).1
        exact ⟨none, _, by have := run_endLoop (P := P) hl (by rw [hrec]; simp); rw [hrec] at this; exact this, hdone _ (hI _ _ _ hi (Chg.putObj' _ _ (.inr (.inr rfl)))) (by simpa using hlt) ((World.putObj_heap_other (by omega)).trans hk)⟩
      · have hlt : w.heap.size + 1 < W2.heap.size := (Array.getElem?_eq_some_iff.1 hl).1
        exact ⟨some c, _, by have := run_endLoop (P := P) hl (by rw [hrec]; simp); rw [hrec] at this; exact this, hstop c pre rest _ hxs (hIx _ _ _ _ hi (Chg.putObj' _ _ (.inr (.inr rfl)))) (by simpa using hlt) ((World.putObj_heap_other (by omega)).trans hk)⟩

end Go.Proofs.YtmifpokafaiebaaDoor
