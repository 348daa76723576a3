/- A RANGE OVER A FUNCTION whose round's variables are blocks of their own. It names no program. chain.beginnings: an iterator. chain.Check. the reference's Check. -/
import Derived.Test.YtpafambdccejnaaDoorIter
import Derived.Test.YtpafambdccejnaaDoorChA
import Derived.Shelf.Abstract
import Derived.Shelf.RegionOpen
import Derived.OwnWalkIn
import Derived.TacticsInMore
import Derived.LoopNIn
import Derived.LoopIn
namespace Go.Proofs.YtpafambdccejnaaDoor
open Go Go.RowKit

/-- **THE CALLER's LAW**, where the round's variables are blocks made anew: A₁ says what the assignments leave. -/
theorem wpIn_range2 {α : Type} {P : Program} {n : Nat} {g : Operand} {ps : Array Tmp} {assign body : Code} {Q : Exit → Act → World → Prop} {a : Act} {w : World}
    {gf : Nat} {lb : Array Value} (hg : a.eval g = .func (.func gf) #[] lb) (eg : ∀ args w, (callFunc gf args).run P w = .ok (.enter gf args) w)
    {encs : α → Array Value} (hps : ∀ x, (encs x).size = ps.size) {R K : Nat → Prop} {xs : List α} {Init : World → Prop} (hseq : IterGives P gf lb encs R K xs Init)
    (hR : ∀ k, R k → k ≠ w.heap.size ∧ k ≠ w.heap.size + 1) (hK : ∀ k, K k → k < w.heap.size)
    (S : Nat → Prop) (hS : ∀ k, S k → ¬ K k ∧ k ≠ w.heap.size ∧ k ≠ w.heap.size + 1)
    (hInit : ∀ W, Chg (fun _ => False) w W → Init W)
    (I : List α → World → Prop) (Ix : Code → List α → World → Prop)
    (hI : ∀ s A B, I s A → Chg (fun k => R k ∨ k = w.heap.size ∨ k = w.heap.size + 1) A B → I s B)
    (hIx : ∀ c s A B, Ix c s A → Chg (fun k => R k ∨ k = w.heap.size ∨ k = w.heap.size + 1) A B → Ix c s B)
    (h0 : I [] w) (A₁ : α → Act → World → Prop)
    (hA : ∀ x a A B, A₁ x a A → Chg (fun k => k = w.heap.size + 1) A B → A₁ x a B)
    (hassign : ∀ (l : Nat) (pre : List α) (x : α) (rest : List α) (W : World) (K : Act → World → Prop), xs = pre ++ x :: rest → I pre W → w.heap.size + 1 < W.heap.size → (∀ a' W', Chg (fun _ => False) W W' → A₁ x a' W' → K a' W') →
      assign.wpIn (Fence.wide.inRound l) (n - 1 - 1) P (Exit.then K (fun _ _ _ => False)) { tmps := (ps.zip (encs x)).foldl (fun t (p, v) => t.setIfInBounds p v) a.tmps, defers := [] } W)
    (hbody : ∀ (l : Nat) (pre : List α) (x : α) (rest : List α) (a' : Act) (W : World), xs = pre ++ x :: rest → I pre W → A₁ x a' W → w.heap.size + 1 < W.heap.size →
      body.wpIn (Fence.wide.inRound l) (n - 1 - 1) P (bodyPostS S I Ix (pre ++ [x]) W) a' W)
    (hdone : ∀ (W : World), I xs W → w.heap.size + 1 < W.heap.size → W.heap[w.heap.size]? = some (.deferred (some [])) → Q .normal { a with defers := { target := .collected w.heap.size, args := #[] } :: a.defers } W)
    (hstop : ∀ (c : Code) (pre rest : List α) (W : World), xs = pre ++ rest → Ix c pre W → w.heap.size + 1 < W.heap.size → W.heap[w.heap.size]? = some (.deferred (some [])) → c.wpIn Fence.wide n P Q { a with defers := { target := .collected w.heap.size, args := #[] } :: a.defers } W) :
    (Code.rangeFunc g ps assign body).wpIn Fence.wide n P Q a w := by
  refine wpIn_rangeFunc ?_
  intro fn hfn
  obtain ⟨rec, hrec⟩ : ∃ rec : LoopState → Option Code → Loop, rec = fun st pe => { state := st, pending := pe, fn, tmps := a.tmps, params := ps, assign, body, defers := w.heap.size } := ⟨_, rfl⟩
  obtain ⟨W1, hW1⟩ : ∃ W1, (w.alloc (.deferred (some []))).alloc (.loop (rec .ready none)) = W1 := ⟨_, rfl⟩
  have hL1 : W1.heap[w.heap.size + 1]? = some (.loop (rec .ready none)) := by
    rw [← hW1]; have := World.alloc_heap_new (w.alloc (.deferred (some []))) (.loop (rec .ready none)); rwa [World.size_alloc] at this
  have hK1 : W1.heap[w.heap.size]? = some (.deferred (some [])) := by
    rw [← hW1]; exact (Below.heap_alloc _ _ _ (by simp)).trans (World.alloc_heap_new w _)
  have hC1 : ∀ S', Chg S' w W1 := fun S' => by rw [← hW1]; exact ((Chg.refl S' w).alloc _).alloc _
  refine ⟨w.heap.size + 1, [{ target := .collected w.heap.size, args := #[] }], W1, { target := .fn (.func gf) lb, args := #[.func (.yield (w.heap.size + 1)) #[] #[]] }, W1, gf,
    #[.func (.yield (w.heap.size + 1)) #[] #[]] ++ lb, W1, ?_, ?_, ?_, ?_, fun h => by simp [Fence.wide] at h, ?_⟩
  · rw [← hW1, hrec]; exact run_enterLoop_outer _ _ _ _ _
  · simp only [resolve, hg]
    simp [go_sem]
  · intro f' _; exact trivial
  · simp [invoke, go_sem, eg]
  · have hnR1 : ¬ R (w.heap.size + 1) := fun h => (hR _ h).2 rfl
    have hnR0 : ¬ R w.heap.size := fun h => (hR _ h).1 rfl
    refine (hseq (n - 1) (w.heap.size + 1)
      (fun pre W => I pre W ∧ W.heap[w.heap.size + 1]? = some (.loop (rec .ready none)) ∧ W.heap[w.heap.size]? = some (.deferred (some [])))
      (fun pre W => ∃ c, Ix c pre W ∧ W.heap[w.heap.size + 1]? = some (.loop (rec .done (some c))) ∧ W.heap[w.heap.size]? = some (.deferred (some [])))
      W1 (hInit W1 (hC1 _)) ?_ ?_ ?_ (And.intro (hI _ _ _ h0 (hC1 _)) (And.intro hL1 hK1))).mono ?_
    · rintro s A B ⟨hi, hl, hk⟩ hc
      exact ⟨hI _ _ _ hi (hc.mono fun _ _ h => .inl h), (hc.block _ (Array.getElem?_eq_some_iff.1 hl).1 hnR1).trans hl, (hc.block _ (Array.getElem?_eq_some_iff.1 hk).1 hnR0).trans hk⟩
    · rintro s A B ⟨c, hi, hl, hk⟩ hc
      exact ⟨c, hIx c _ _ _ hi (hc.mono fun _ _ h => .inl h), (hc.block _ (Array.getElem?_eq_some_iff.1 hl).1 hnR1).trans hl, (hc.block _ (Array.getElem?_eq_some_iff.1 hk).1 hnR0).trans hk⟩
    · -- ONE ROUND
      rintro pre x rest W hxs ⟨hi, hl, hk⟩
      have hlt : w.heap.size + 1 < W.heap.size := (Array.getElem?_eq_some_iff.1 hl).1
      have hy := run_yield (P := P) (args := encs x) hl (by rw [hrec]; exact hps x)
      rw [hrec] at hy
      refine ⟨fn, _, assign, body, hy, roundIn_of_wpIn hfn (hassign _ pre x rest W _ hxs hi hlt ?_)⟩
      intro a' Wa hCa hAa
      have hla : Wa.heap[w.heap.size + 1]? = some (.loop (rec .ready none)) := (hCa.block _ hlt (fun h => h)).trans hl
      have hka : Wa.heap[w.heap.size]? = some (.deferred (some [])) := (hCa.block _ (by omega) (fun h => h)).trans hk
      have hlta : w.heap.size + 1 < Wa.heap.size := Nat.lt_of_lt_of_le hlt hCa.size
      refine ⟨_, run_beginRound hla (by rw [hrec]), ?_⟩
      have hl2 : (Wa.putObj (w.heap.size + 1) (.loop { rec .ready none with state := .busy })).heap[w.heap.size + 1]? = some (.loop { rec .ready none with state := .busy }) := World.putObj_heap_same hlta
      have hk2 : (Wa.putObj (w.heap.size + 1) (.loop { rec .ready none with state := .busy })).heap[w.heap.size]? = some (.deferred (some [])) := (World.putObj_heap_other (by omega)).trans hka
      have hia : I pre Wa := hI _ _ _ hi (hCa.mono fun _ _ h => h.elim)
      refine wpIn_mono (hbody _ pre x rest a' _ hxs (hI _ _ _ hia (Chg.putObj' _ _ (.inr (.inr rfl)))) (hA _ _ _ _ hAa (Chg.putObj' _ _ rfl)) (by simpa using hlta)) ?_
      have hnS1 : ¬ S (w.heap.size + 1) := fun h => (hS _ h).2.2 rfl
      have hnS0 : ¬ S w.heap.size := fun h => (hS _ h).2.1 rfl
      have fin : ∀ (jump : Option Code) (W3 : World), Chg S (Wa.putObj (w.heap.size + 1) (.loop { rec .ready none with state := .busy })) W3 →
          (Instr.endRound (w.heap.size + 1) jump).run P W3 = .ok (.bool jump.isNone) (W3.putObj (w.heap.size + 1) (.loop (rec (if jump.isNone then .ready else .done) jump))) ∧
          (W3.putObj (w.heap.size + 1) (.loop (rec (if jump.isNone then .ready else .done) jump))).heap[w.heap.size + 1]? = some (.loop (rec (if jump.isNone then .ready else .done) jump)) ∧
          (W3.putObj (w.heap.size + 1) (.loop (rec (if jump.isNone then .ready else .done) jump))).heap[w.heap.size]? = some (.deferred (some [])) := fun jump W3 hk3 => by
        have hl3 := (hk3.block _ (by simpa using hlta) hnS1).trans hl2
        have hk4 := (hk3.block _ (by simp; omega) hnS0).trans hk2
        have := run_endRound (P := P) jump hl3
        rw [hrec] at this ⊢
        exact ⟨this, World.putObj_heap_same (Array.getElem?_eq_some_iff.1 hl3).1, (World.putObj_heap_other (by omega)).trans hk4⟩
      rintro e a3 W3 hp
      cases e with
      | normal =>
        obtain ⟨hk3, hi3⟩ := hp
        obtain ⟨hr, hl4, hk4⟩ := fin none W3 hk3
        refine ⟨_, _, hr, .inl ⟨rfl, ⟨hI _ _ _ hi3 (Chg.putObj' _ _ (.inr (.inr rfl))), hl4, hk4⟩, ?_, ?_⟩⟩
        · have h5 := hk3.size; have h6 := hCa.size; simp at h5 ⊢; omega
        · intro k hkk
          have hlk := hK k hkk
          rw [World.putObj_heap_other (by omega)]
          refine (hk3.block k (by simp; omega) (fun hs => (hS k hs).1 hkk)).trans ?_
          rw [World.putObj_heap_other (by omega)]
          exact hCa.block k (by omega) (fun h => h)
      | ret =>
        obtain ⟨hk3, hi3⟩ := hp
        obtain ⟨hr, hl4, hk4⟩ := fin (some .ret) W3 hk3
        exact ⟨_, _, hr, .inr ⟨rfl, .ret, hIx _ _ _ _ hi3 (Chg.putObj' _ _ (.inr (.inr rfl))), hl4, hk4⟩⟩
      | exit id =>
        obtain ⟨hk3, hi3⟩ := hp
        obtain ⟨hr, hl4, hk4⟩ := fin (some (.exit id)) W3 hk3
        exact ⟨_, _, hr, .inr ⟨rfl, .exit id, hIx _ _ _ _ hi3 (Chg.putObj' _ _ (.inr (.inr rfl))), hl4, hk4⟩⟩
      | goto t =>
        obtain ⟨hk3, hi3⟩ := hp
        obtain ⟨hr, hl4, hk4⟩ := fin (some (.goto t)) W3 hk3
        exact ⟨_, _, hr, .inr ⟨rfl, .goto t, hIx _ _ _ _ hi3 (Chg.putObj' _ _ (.inr (.inr rfl))), hl4, hk4⟩⟩
      | panic ch => exact hp.elim
      | outgrown => exact hp.elim
    · -- BEHIND THE ITERATOR
      rintro e W2 ⟨⟨v, rfl⟩, (⟨hi, hl, hk⟩ | ⟨pre, rest, hxs, c, hi, hl, hk⟩)⟩
      · have hlt : w.heap.size + 1 < W2.heap.size := (Array.getElem?_eq_some_iff.1 hl).1
        exact ⟨none, _, by have := run_endLoop (P := P) hl (by rw [hrec]; simp); rw [hrec] at this; exact this, hdone _ (hI _ _ _ hi (Chg.putObj' _ _ (.inr (.inr rfl)))) (by simpa using hlt) ((World.putObj_heap_other (by omega)).trans hk)⟩
      · have hlt : w.heap.size + 1 < W2.heap.size := (Array.getElem?_eq_some_iff.1 hl).1
        exact ⟨some c, _, by have := run_endLoop (P := P) hl (by rw [hrec]; simp); rw [hrec] at this; exact this, hstop c pre rest _ hxs (hIx _ _ _ _ hi (Chg.putObj' _ _ (.inr (.inr rfl)))) (by simpa using hlt) ((World.putObj_heap_other (by omega)).trans hk)⟩

end Go.Proofs.YtpafambdccejnaaDoor

namespace Go.Proofs.YtpafambdccejnaaDoor
open Go.RowKit Go.Shelf
attribute [local go_sem] Oper.semAt_some wide_depth
set_option linter.unusedVariables false

theorem LkV.kept {w w' : World} {cs : List Value} {x : Lk} (h : LkV w cs x) (hk : ∀ k, k < w.heap.size → w'.heap[k]? = w.heap[k]?) : LkV w' cs x := by
  obtain ⟨p, c, h1, h2, h3, h4⟩ := h
  exact ⟨p, c, h1, h2, h3, h4.kept hk⟩
theorem rangeAt_kept {w w' : World} {b o : Nat} {cs : List Value} (h : w.rangeAt b o cs) (hk : ∀ k, k < w.heap.size → w'.heap[k]? = w.heap[k]?) : w'.rangeAt b o cs := fun j v hv => by
  have := h j v hv
  exact (World.cell?_of_block (a := ⟨b, o + j, none⟩) (hk b (block_lt_of_cell this))).trans this
theorem Links.kept {w w' : World} {p : Option Addr} {ls : List Lk} (h : Links w p ls) (hk : ∀ k, k < w.heap.size → w'.heap[k]? = w.heap[k]?) : Links w' p ls := fun hne => by
  obtain ⟨b, o, e, hi⟩ := h hne
  exact ⟨b, o, e, fun i h => by obtain ⟨cs, h1, h2⟩ := hi i h; exact ⟨cs, h1.kept hk, rangeAt_kept h2 hk⟩⟩
theorem Tabs.kept {w w' : World} (h : Tabs w) (hk : ∀ k, k < w.heap.size → w'.heap[k]? = w.heap[k]?) : Tabs w' := ⟨h.1.kept (hk _ h.1.lt), h.2.kept (hk _ h.2.lt)⟩

/-- the cells of each link -/
def DFn (w : World) (p : Option Addr) (ls : List Lk) (D : Nat → Array Value) : Prop := ls ≠ [] → ∃ b o, p = some ⟨b, o, none⟩ ∧ ∀ i (h : i < ls.length), LkV w (D i).toList ls[i] ∧ w.rangeAt b (o + i * 35) (D i).toList
theorem Links.fn {w : World} {p : Option Addr} {ls : List Lk} (h : Links w p ls) : ∃ D, DFn w p ls D := by
  by_cases hne : ls = []
  · exact ⟨fun _ => #[], fun h => absurd hne h⟩
  · obtain ⟨b, o, e, hi⟩ := h hne
    refine ⟨fun i => if h : i < ls.length then (Classical.choose (hi i h)).toArray else #[], fun _ => ⟨b, o, e, fun i h => ?_⟩⟩
    simp only [h, dif_pos]
    exact Classical.choose_spec (hi i h)
theorem DFn.size {w : World} {p : Option Addr} {ls : List Lk} {D : Nat → Array Value} (hf : Few ls) (h : DFn w p ls D) (i : Nat) (hi : i < ls.length) : (D i).size = 35 := by
  obtain ⟨b, o, _, h2⟩ := h (by rintro rfl; simp at hi)
  have := (h2 i hi).1.len (hf.2 _ (List.getElem_mem hi)).prev
  simpa using this
theorem DFn.one {w : World} {p : Option Addr} {ls : List Lk} {D : Nat → Array Value} (h : DFn w p ls D) (i : Nat) (hi : i < ls.length) : (D i).all (·.oneCell') = true := by
  obtain ⟨b, o, _, h2⟩ := h (by rintro rfl; simp at hi)
  have := all_oneCell_toArray (h2 i hi).1.one
  simpa using this

abbrev begEncs (D : Nat → Array Value) (ls : List Lk) (i : Nat) : Array Value := #[.agg (D i), .agg (u8s (hd (ls.take i))).toArray]

/-- what the iterator needs of the world -/
structure KEq (W0 : World) (hb : Nat) (v : Value) (W : World) : Prop where
  keep : ∀ k, k < W0.heap.size → W.heap[k]? = W0.heap[k]?
  own : W.heap[hb]? = some (.cells #[v] 22 (0, 0))
  size : W0.heap.size ≤ W.heap.size
theorem KEq.up {W0 : World} {hb : Nat} {v : Value} {W W' : World} (h : KEq W0 hb v W) (hu : Up W W') : KEq W0 hb v W' :=
  ⟨fun k hk => (hu.block k (Nat.lt_of_lt_of_le hk h.size)).trans (h.keep k hk), (hu.block hb (lt_of_block h.own)).trans h.own, Nat.le_trans h.size hu.size⟩

theorem KEq.round {W0 : World} {hb : Nat} {v : Value} {W W' : World} (h : KEq W0 hb v W) (hs : W.heap.size ≤ W'.heap.size) (hk : ∀ k, k < W0.heap.size ∨ k = hb → W'.heap[k]? = W.heap[k]?) : KEq W0 hb v W' :=
  ⟨fun k hlt => (hk k (.inl hlt)).trans (h.keep k hlt), (hk hb (.inr rfl)).trans h.own, Nat.le_trans h.size hs⟩

theorem range_split {n : Nat} {pre rest : List Nat} {x : Nat} (h : List.range n = pre ++ x :: rest) : pre = List.range x ∧ x < n := by
  have h1 : pre.length < n := by have := congrArg List.length h; simp at this; omega
  have h2 : (List.range n)[pre.length]? = some x := by rw [h]; simp
  rw [List.getElem?_range h1] at h2
  have hx : pre.length = x := by simpa using h2
  refine ⟨?_, by omega⟩
  have h3 : (List.range n).take pre.length = pre := by rw [h]; simp
  rw [← h3, hx, List.take_range, Nat.min_eq_left (by omega)]

theorem beg_calls (p : Option Addr) (n c : Nat) (w : World) :
    Calls Tryd.prog 30 #[.slice p n c] w fun e w' => e = .returned (.func (.func 37) #[] #[.pointer (some ⟨w.heap.size, 0, none⟩)]) ∧ w' = w.alloc (.cells #[.slice p n c] 22) := by
  go_enter Tryd.func30, Tryd.ntmps30
  go_wp2
  go_ret
  exact ⟨rfl, rfl⟩

set_option maxRecDepth 100000 in
set_option maxHeartbeats 1000000 in
theorem beg1_some (W0 : World) (b o n c : Nat) (ls : List Lk) (D : Nat → Array Value) (hb : Nat) (hn : n = ls.length) (hf : Few ls) (hD : DFn W0 (some ⟨b, o, none⟩) ls D) (hl : Links W0 (some ⟨b, o, none⟩) ls) (ht : Tabs W0) (hc : n ≤ c) (hcm : c ≤ maxLen) :
    IterGives Tryd.prog 37 #[.pointer (some ⟨hb, 0, none⟩)] (begEncs D ls) (fun _ => False) (fun k => k < W0.heap.size ∨ k = hb) (List.range n) (KEq W0 hb (.slice (some ⟨b, o, none⟩) n c)) := by
  intro m l J Jx W hI0 hJ hJx hY h0
  have hn100 : n ≤ 100 := by rw [hn]; exact hf.1
  have DS := Lib.hid fun i (hi : i < n) => (DFn.size hf hD i (by omega) : (D i).size = 35)
  have DC := Lib.hid fun i (hi : i < n) => DFn.one hD i (by omega)
  have DR := Lib.hid fun i (hi : i < n) => (by
    obtain ⟨b', o', e, h2⟩ := hD (by rintro rfl; simp at hn; omega)
    injection e with e; injection e with e1 e2; subst e1 e2
    exact (h2 i (by omega)).2 : W0.rangeAt b (o + i * 35) (D i).toList)
  have HH := Lib.hid fun i (hi : i < n) (W : World) (hk : KEq W0 hb (.slice (some ⟨b, o, none⟩) n c) W) => head_calls (some ⟨b, o, none⟩) i c (ls.take i) W (by simp; omega) (hf.take i) ((hl.take i).kept hk.keep) (ht.kept hk.keep)
  have HI0 := Lib.hid hI0
  have HYY := Lib.hid hY
  have HJ := Lib.hid hJ
  have HJX := Lib.hid hJx
  have HJ0 := Lib.hid h0
  have HMM := Lib.hid hcm
  have hc0 := cell_of_one hI0.own
  clear hD hl ht hf hI0 hY hJ hJx h0 hn hcm
  refine callsIn_of_wp Tryd.func37 rfl trivial ?_ rfl
  simp only [Tryd.ntmps37, List.size_toArray, List.length_cons, List.length_nil, Nat.reduceAdd, Nat.reduceSub, Array.replicate_succ, Array.replicate_zero, List.push_toArray, List.append_toArray, List.nil_append, List.cons_append]
  gi_wp2
  clear hc0
  gi_loopw [7] (fun v7 wr => ∃ i : Nat, i ≤ n ∧ v7 = .int .i64 i ∧ Hid (KEq W0 hb (.slice (some ⟨b, o, none⟩) n c) wr) ∧ Hid (J (List.range i) wr))
    (fun v7 _ => n - (intOf v7).toNat)
  case atStart => exact ⟨0, by omega, rfl, HI0, HJ0⟩
  case round =>
    obtain ⟨i, hi, rfl, HK, HJs⟩ := hrel
    by_cases hlt : i < n
    · have hdi := DS.out i hlt
      have hdc := DC.out i hlt
      have hdr := DR.out i hlt
      have HDR : Hid (wr.rangeAt b (o + i * 35) (D i).toList) := rangeAt_kept hdr HK.out.keep
      have HDS := Lib.hid hdi
      have HDC := Lib.hid hdc
      clear hdi hdc hdr
      gi_wp2_with (first | (refine wpListIn_load_arr wideF rfl 37 (.tmp 10) rfl b (o + i * 35) rfl (D i) _ HDR.out rfl rfl (by rw [HDS.out]; rfl) ?_) | (refine wpListIn_allocG wideF rfl 37 35 allocsLink rfl ?_; intro W2 u2 z2 hz2; obtain ⟨Z2, hZ2, hb2⟩ := hz2; have U2 := Lib.hid u2; have HZ2 := Lib.hid hZ2; have HB2 := Lib.hid hb2; clear u2 z2 hZ2 hb2) | (refine wpListIn_store_row wideF rfl 37 (.tmp 4) (.tmp 11) rfl _ (D i) rfl rfl 37 _ HB2.out (by rw [HDS.out]; rfl) (by rw [HZ2.out, HDS.out]) HDC.out ?_))
      obtain ⟨bx, hbx⟩ : ∃ b, b = wr.heap.size := ⟨_, rfl⟩
      have HB2' := HB2.out
      rw [← hbx] at HB2'
      rw [← hbx]
      refine wpIn_named ?_
      intro W3 hW3
      have u3 : Up wr W3 := by rw [hW3, hbx]; exact below_setRow U2.out (Nat.le_refl _) _
      have x3 : W3.heap[bx]? = some (.cells (D i) 37 (0, 0)) := by rw [hW3]; exact setRow_heap _ _ _ _ _ _ HB2'
      have K3 := Lib.hid (HK.out.up u3)
      have J3 : Hid (J (List.range i) W3) := HJ.out _ _ _ HJs.out ⟨u3.os, u3.tape, u3.output, u3.size, fun k hk _ => u3.block k hk⟩
      have X3 := Lib.hid x3
      have hr0 : ∀ x : UpW W3.drew, x.w.cell? ⟨hb, 0, none⟩ = some (.slice (some ⟨b, o, none⟩) n c) := fun x => cell_of_one ((K3.out.up (Up.trans (Up.refl W3).drew x.up)).own)
      haveI := UpW.some_ W3.drew
      clear hW3 u3 x3 HB2' HB2 hbx HK HJs HDR
      refine wpIn_region_up_tail wideF 6 (by kernel_rfl) (by kernel_rfl) ?_
      refine wpQuiet_step (fun K hK => ?_)
      go_simp
      refine hK _ ?_
      clear hK K
      refine wpQuiet_load_arr (by rfl) 37 (.tmp 4) rfl bx 0 rfl (D i) _ (fun w' hw' => by obtain ⟨x, rfl⟩ := hw'; exact rangeAt_row ((x.block (lt_of_block (w := W3.drew) X3.out)).trans X3.out)) rfl rfl (by rw [HDS.out]; rfl) ?_
      have hic : (i : Int) ≤ c := by omega
      have hi0 : (0 : Int) ≤ i := by omega
      repeat (first | go_big_quiet_step (fail) | quiet_step ((go_at_call 15; with_reducible exact Calls.quiet_up (HH.out i hlt _ (K3.out.up (Up.trans (Up.refl W3).drew (UpW.up _)))))))
      refine wpQuiet_nil ?_
      rintro w4 ⟨x, hx⟩
      have u4 : Up W3 w4 := by rw [hx]; exact Up.trans (Up.refl W3).drew x.up
      have K4 := Lib.hid (K3.out.up u4)
      have J4 : Hid (J (List.range i) w4) := HJ.out _ _ _ J3.out ⟨u4.os, u4.tape, u4.output, u4.size, fun k hk _ => u4.block k hk⟩
      clear hx hr0 u4
      obtain ⟨rest, hrest⟩ : ∃ rest, List.range n = List.range i ++ i :: rest := ⟨(List.range n).drop (i + 1), by
        have := List.take_append_drop (i + 1) (List.range n)
        rw [List.take_range, Nat.min_eq_left (by omega), List.range_succ, List.append_assoc] at this
        exact this.symm⟩
      obtain ⟨fn, tmps, assign, body, hy, hR⟩ := HYY.out (List.range i) i rest w4 hrest J4.out
      have HRR := Lib.hid hR
      have HREST := Lib.hid hrest
      clear hrest hR
      simp only [List.drop_succ_cons, List.drop_zero]
      gi_wp2
      refine HRR.out.mono ?_
      rintro e W5 (⟨rfl, hJ5, hsz, hk5⟩ | ⟨rfl, hJx5⟩)
      · have K5 : Hid (KEq W0 hb (.slice (some ⟨b, o, none⟩) n c) W5) := K4.out.round hsz hk5
        have J5 : Hid (J (List.range (i + 1)) W5) := by show J _ _; rw [List.range_succ]; exact hJ5
        clear hJ5 hsz hk5
        gi_wp2
        exact ⟨⟨i + 1, by omega, by go_num, K5, J5⟩, by simp [intOf]; omega⟩
      · gi_wp2
        refine bodyPost_ret (results_none rfl _ _ _) rfl ?_
        exact ⟨⟨_, rfl⟩, .inr ⟨_, rest, by rw [HREST.out, List.append_cons], hJx5⟩⟩
    · have hin : i = n := by omega
      subst hin
      gi_wp2
      go_end0
      exact ⟨⟨_, rfl⟩, .inl HJs.out⟩

/-- no links -/
theorem beg1_none (W0 : World) (p : Option Addr) (c : Nat) (D : Nat → Array Value) (hb : Nat) :
    IterGives Tryd.prog 37 #[.pointer (some ⟨hb, 0, none⟩)] (begEncs D []) (fun _ => False) (fun k => k < W0.heap.size ∨ k = hb) (List.range 0) (KEq W0 hb (.slice p 0 c)) := by
  intro m l J Jx W hI0 hJ hJx hY h0
  have HJ0 := Lib.hid h0
  have hc0 := cell_of_one hI0.own
  clear hI0 hY hJ hJx h0
  refine callsIn_of_wp Tryd.func37 rfl trivial ?_ rfl
  simp only [Tryd.ntmps37, List.size_toArray, List.length_cons, List.length_nil, Nat.reduceAdd, Nat.reduceSub, Array.replicate_succ, Array.replicate_zero, List.push_toArray, List.append_toArray, List.nil_append, List.cons_append]
  gi_wp2
  clear hc0
  gi_loopw [7] (fun v7 wr => v7 = .int .i64 0 ∧ Hid (J [] wr)) (fun v7 _ => 0)
  case atStart => exact ⟨rfl, HJ0⟩
  case round =>
    obtain ⟨rfl, HJs⟩ := hrel
    gi_wp2
    go_end0
    exact ⟨⟨_, rfl⟩, .inl HJs.out⟩

theorem beg1_gives (W0 : World) (p : Option Addr) (n c : Nat) (ls : List Lk) (D : Nat → Array Value) (hb : Nat) (hn : n = ls.length) (hf : Few ls) (hD : DFn W0 p ls D) (hl : Links W0 p ls) (ht : Tabs W0) (hc : n ≤ c) (hcm : c ≤ maxLen) :
    IterGives Tryd.prog 37 #[.pointer (some ⟨hb, 0, none⟩)] (begEncs D ls) (fun _ => False) (fun k => k < W0.heap.size ∨ k = hb) (List.range n) (KEq W0 hb (.slice p n c)) := by
  by_cases hne : ls = []
  · subst hne; subst hn; exact beg1_none W0 p c D hb
  · obtain ⟨b, o, rfl, _⟩ := hD hne
    exact beg1_some W0 b o n c ls D hb hn hf hD hl ht hc hcm

end Go.Proofs.YtpafambdccejnaaDoor

namespace Go.Proofs.YtpafambdccejnaaDoor
open Go.RowKit Go.Shelf
attribute [local go_sem] Oper.semAt_some wide_depth
set_option linter.unusedVariables false

/-! ### what Check says, plain -/
def nd0 (ls : List Lk) : Int := match ls with | [] => 0 | x :: _ => x.node
def badL (ls : List Lk) (i : Nat) (x : Lk) : Bool := decide (x.node ≠ nd0 ls ∨ x.node < 0 ∨ 24 ≤ x.node ∨ x.no ≠ i ∨ x.prev ≠ hd (ls.take i))
def badAt (ls : List Lk) (i : Nat) : Bool := match ls[i]? with | some x => badL ls i x | none => false
def chk (ls : List Lk) : Int := if (List.range ls.length).any (badAt ls) then 80 else 0
theorem badAt_lt {ls : List Lk} {i : Nat} (h : i < ls.length) : badAt ls i = badL ls i ls[i] := by unfold badAt; rw [List.getElem?_eq_getElem h]
theorem chk_good {ls : List Lk} (h : ∀ j, j < ls.length → badAt ls j = false) : chk ls = 0 := by
  unfold chk
  rw [if_neg]
  simp only [List.any_eq_true, List.mem_range, not_exists, not_and]
  intro j hj e
  rw [h j hj] at e
  cases e
theorem chk_bad {ls : List Lk} {j : Nat} (hj : j < ls.length) (h : badAt ls j = true) : chk ls = 80 := by
  unfold chk
  rw [if_pos]
  simp only [List.any_eq_true, List.mem_range]
  exact ⟨j, hj, h⟩
theorem chk_zero {ls : List Lk} : chk ls = 0 ↔ ∀ j, j < ls.length → badAt ls j = false := by
  constructor
  · intro h j hj
    cases hb : badAt ls j with
    | false => rfl
    | true => rw [chk_bad hj hb] at h; omega
  · exact chk_good
theorem chk_cases (ls : List Lk) : chk ls = 0 ∨ chk ls = 80 := by unfold chk; split <;> simp

set_option maxRecDepth 100000 in
set_option maxHeartbeats 1000000 in
theorem chCheck_calls (p : Option Addr) (n c : Nat) (ls : List Lk) (w : World) (hn : n = ls.length) (hf : Few ls) (h : Links w p ls) (htab : Tabs w) (hc : n ≤ c) (hcm : c ≤ maxLen) :
    Calls Tryd.prog 16 #[.slice p n c] w fun e w' => e = .returned (.int .i64 (chk ls)) ∧ Up w w' := by
  have hn100 : n ≤ 100 := by rw [hn]; exact hf.1
  obtain ⟨D, hD⟩ := h.fn
  have HG := Lib.hid fun hb => beg1_gives w p n c ls D hb hn hf hD h htab hc hcm
  have HDS := Lib.hid fun i (hi : i < n) => (DFn.size hf hD i (by omega) : (D i).size = 35)
  have HDC := Lib.hid fun i (hi : i < n) => DFn.one hD i (by omega)
  have HN := Lib.hid hn
  have HF := Lib.hid hf
  have HDD := Lib.hid hD
  have H0 := Lib.hid h
  have h1024 : decide ((1024 : Int) < (n : Int)) = false := by simp; omega
  clear hn hf hD h htab
  refine callsIn_wide (n := 3) |>.1 ?_
  refine callsIn_of_wp_marks Tryd.func16 rfl trivial ?_ rfl
  simp only [Tryd.ntmps16, List.size_toArray, List.length_cons, List.length_nil, Nat.reduceAdd, Nat.reduceSub, Array.replicate_succ, Array.replicate_zero, List.push_toArray, List.append_toArray, List.nil_append, List.cons_append]
  gi_wp2
  refine ⟨trivial, callsIn_wide.2 ((beg_calls _ _ _ _).mono ?_)⟩
  rintro e w' ⟨rfl, rfl⟩
  gi_wp2
  refine wpIn_named ?_
  intro Wr hWr
  obtain ⟨b1, hb1⟩ : ∃ b, b = w.heap.size := ⟨_, rfl⟩
  obtain ⟨b2, hb2⟩ : ∃ b, b = w.heap.size + 1 := ⟨_, rfl⟩
  obtain ⟨b3, hb3⟩ : ∃ b, b = w.heap.size + 1 + 1 := ⟨_, rfl⟩
  obtain ⟨hb, hhb⟩ : ∃ b, b = w.heap.size + 1 + 1 + 1 := ⟨_, rfl⟩
  rw [← hhb, ← hb3, ← hb2, ← hb1]
  have x1 : Wr.heap[b1]? = some (.cells #[.slice p n c] 22 (0, 0)) := by
    rw [hWr, heap_old (by rw [hb1]; simp +arith), heap_old (by rw [hb1]; simp +arith), heap_old (by rw [hb1]; simp +arith), heap_new (by rw [hb1])]
  have x2 : Wr.heap[b2]? = some (.cells #[.int .i64 0] 26 (0, 0)) := by
    rw [hWr, heap_old (by rw [hb2]; simp +arith), heap_old (by rw [hb2]; simp +arith), heap_new (by rw [hb2]; simp)]
  have x3 : Wr.heap[b3]? = some (.cells #[.int .i64 0] 3 (0, 0)) := by
    rw [hWr, heap_old (by rw [hb3]; simp +arith), heap_new (by rw [hb3]; simp)]
  have x4 : Wr.heap[hb]? = some (.cells #[.slice p n c] 22 (0, 0)) := by
    rw [hWr, heap_new (by rw [hhb]; simp)]
  have hB0 : Below w.heap.size w Wr := by rw [hWr]; exact ((((Below.refl _ _).alloc (Nat.le_refl _) _).alloc (by simp) _).alloc (by simp; omega) _).alloc (by simp; omega) _
  have hWs : Wr.heap.size = w.heap.size + 4 := by rw [hWr]; simp
  have X4 := Lib.hid x4
  have HB0 := Lib.hid hB0
  have hlow : w.heap.size ≤ b1 ∧ b1 < b2 ∧ b2 < b3 ∧ b3 < hb ∧ hb < Wr.heap.size ∧ w.heap.size ≤ Wr.heap.size := by omega
  obtain ⟨hl1, hl2, hl3, hl4, hl5, hl6⟩ := hlow
  have HB1 := Lib.hid hb1
  clear hWr hb1 hb2 hb3 hhb hWs
  refine wpIn_range2 (gf := 37) (lb := #[.pointer (some ⟨hb, 0, none⟩)]) rfl
    (enters_of Tryd.func37 (by kernel_rfl) rfl) (fun _ => rfl) (HG.out hb)
    (fun k hk => hk.elim) (fun k hk => by omega) (fun k => k = b2 ∨ k = b3) (fun k hk => by omega) ?init
    (fun pre W => Hid (W.heap[b1]? = some (.cells #[.slice p n c] 22 (0, 0))) ∧ Hid (W.heap[b2]? = some (.cells #[.int .i64 0] 26 (0, 0))) ∧ Hid (W.heap[b3]? = some (.cells #[.int .i64 (pre.length : Nat)] 3 (0, 0))) ∧ Hid (Below w.heap.size w W) ∧ Hid (∀ j, j < pre.length → badAt ls j = false))
    (fun cd pre W => cd = .ret ∧ Hid (W.heap[b2]? = some (.cells #[.int .i64 80] 26 (0, 0))) ∧ Hid (Below w.heap.size w W) ∧ Hid (chk ls = 80)) ?hI ?hIx
    ⟨x1, x2, x3, hB0, fun j hj => by simp at hj⟩
    (fun i a' W => ∃ bx by', a' = { tmps := #[Value.slice p n c, Value.pointer (some ⟨b1, 0, none⟩), Value.pointer (some ⟨b2, 0, none⟩), Value.pointer (some ⟨b3, 0, none⟩), .pointer (some ⟨bx, 0, none⟩), .pointer (some ⟨by', 0, none⟩), Value.slice p n c, Value.int IntKind.i64 ↑n, Value.bool false, Value.slice p n c, Value.func (Fn.func 37) #[] #[Value.pointer (some ⟨hb, 0, none⟩)], .agg (D i), .agg (u8s (hd (ls.take i))).toArray] ++ Array.replicate 37 undef, defers := [] } ∧
      Hid (W.heap[bx]? = some (.cells (D i) 37 (0, 0))) ∧ Hid (W.heap[by']? = some (.cells (u8s (hd (ls.take i))).toArray 35 (0, 0))) ∧ Wr.heap.size + 1 < bx ∧ Wr.heap.size + 1 < by') ?hA ?assign ?body ?done ?stop
  case init =>
    intro W hW
    exact ⟨fun k hk => (hW.block k (by omega) (fun h => h)).trans (HB0.out.block k hk), (hW.block hb (lt_of_block X4.out) (fun h => h)).trans X4.out, by have := hW.size; omega⟩
  case hI =>
    rintro s A B ⟨y1, y2, y3, y4, y5⟩ hch
    have l1 := lt_of_block y1.out
    have l2 := lt_of_block y2.out
    have l3 := lt_of_block y3.out
    refine ⟨(hch.block _ l1 (by rintro (h | h | h) <;> first | exact h | omega)).trans y1.out, (hch.block _ l2 (by rintro (h | h | h) <;> first | exact h | omega)).trans y2.out, (hch.block _ l3 (by rintro (h | h | h) <;> first | exact h | omega)).trans y3.out, y4.out.trans (hch.below (by have := y4.out.size; omega) (fun k hk => by rintro (h | h | h) <;> first | exact h | omega)), y5⟩
  case hIx =>
    rintro cd s A B ⟨rfl, y2, y4, y5⟩ hch
    have l2 := lt_of_block y2.out
    exact ⟨rfl, (hch.block _ l2 (by rintro (h | h | h) <;> first | exact h | omega)).trans y2.out, y4.out.trans (hch.below (by have := y4.out.size; omega) (fun k hk => by rintro (h | h | h) <;> first | exact h | omega)), y5⟩
  case hA =>
    rintro i a' A B ⟨bx, by', rfl, y1, y2, z1, z2⟩ hch
    exact ⟨bx, by', rfl, (hch.block _ (lt_of_block y1.out) (by omega)).trans y1.out, (hch.block _ (lt_of_block y2.out) (by omega)).trans y2.out, z1, z2⟩
  case assign =>
    intro l pre i rest W K hx hi hlt hK
    obtain ⟨-, hin⟩ := range_split hx
    have HS := Lib.hid (HDS.out i hin)
    have HC := Lib.hid (HDC.out i hin)
    obtain ⟨E, hE⟩ : ∃ E, E = (u8s (hd (ls.take i))).toArray := ⟨_, rfl⟩
    have hEs : E.size = 32 := by rw [hE, u8s_arr, hd_len]
    have hEc : E.all (·.oneCell') = true := by rw [hE]; exact u8s_all _
    have HES := Lib.hid hEs
    have HEC := Lib.hid hEc
    have HKK := Lib.hid hK
    have HL := Lib.hid hlt
    unfold begEncs
    rw [← hE]
    have HE := Lib.hid hE
    clear hE hEs hEc hK hx hi hlt x1 x2 x3 x4 hB0
    go_simp
    gi_wp2_with (first
      | (refine wpListIn_allocG (wideF_round l) rfl 37 35 allocsLink rfl ?_; intro W2 u2 z2 hz2; obtain ⟨Z2, hZ2, hq2⟩ := hz2; have U2 := Lib.hid u2; have HZ2 := Lib.hid hZ2; have HQ2 := Lib.hid hq2; have HZZ := Lib.hid z2; clear u2 z2 hZ2 hq2)
      | (refine wpListIn_store_row (wideF_round l) rfl 37 (.tmp 4) (.tmp 11) rfl _ (D i) rfl rfl 37 _ HQ2.out (by rw [HS.out]; rfl) (by rw [HZ2.out, HS.out]) HC.out ?_)
      | (refine wpListIn_named ?_; intro W3 hW3; have u3 := setRow_upN hW3 U2.out (Nat.le_refl _); have y3 := setRow_named hW3 HQ2.out; have U3 := Lib.hid u3; have Y3 := Lib.hid y3; clear hW3 u3 y3; refine wpListIn_allocG (wideF_round l) rfl 35 32 allocsDigest rfl ?_; intro W4 u4 z4 hz4; obtain ⟨Z4, hZ4, hq4⟩ := hz4; have U4 := Lib.hid u4; have HZ4 := Lib.hid hZ4; have HQ4 := Lib.hid hq4; clear u4 z4 hZ4 hq4)
      | (refine wpListIn_store_row (wideF_round l) rfl 35 (.tmp 5) (.tmp 12) rfl _ E rfl rfl 35 _ HQ4.out (by rw [HES.out]; rfl) (by rw [HZ4.out, HES.out]) HEC.out ?_))
    obtain ⟨W5, hW5⟩ : ∃ W5, W5 = W4.setRow W3.heap.size E := ⟨_, rfl⟩
    rw [← hW5]
    have u5 : Up W W5 := Up.trans U3.out (setRow_upN hW5 U4.out (Nat.le_refl _))
    have y5 := setRow_named hW5 HQ4.out
    have hlt3 := lt_of_block Y3.out
    have x5 : W5.heap[W.heap.size]? = some (.cells (D i) 37 (0, 0)) := by
      rw [hW5]
      exact ((setRow_other _ _ _ _ (by omega)).trans (U4.out.block _ hlt3)).trans Y3.out
    have hl := HL.out
    refine HKK.out _ _ (Up.chg u5 _) ⟨W.heap.size, W3.heap.size, ?_, x5, ?_, hl, ?_⟩
    · rw [← HE.out]
      simp only [Array.replicate_succ, Array.replicate_zero, List.push_toArray, List.append_toArray, List.nil_append, List.cons_append]
      rfl
    · rw [← HE.out]; exact y5
    · omega
  case body =>
    rintro l pre i rest a' W hx ⟨y1, y2, y3, y4, y5⟩ ⟨bx, by', rfl, yx, yy, zx, zy⟩ hlt
    obtain ⟨rfl, hin⟩ := range_split hx
    have hil : (List.range i).length = i := List.length_range
    rw [hil] at y3 y5
    have hil2 : i < ls.length := by rw [← HN.out]; exact hin
    obtain ⟨b, o, rfl, hdd⟩ := HDD.out (by rintro rfl; simp at hil2)
    obtain ⟨⟨px, cx, hcs, hd1, hd2, hd3⟩, hrg⟩ := hdd i hil2
    obtain ⟨⟨p0, c0, hcs0, _, _, _⟩, hrg0⟩ := hdd 0 (by omega)
    have hx0 := HF.out.2 _ (List.getElem_mem hil2)
    have hxd : ls[i].data.length ≤ 300 := hx0.data
    have hxp := hx0.prev
    have hhl := hd_len (ls.take i)
    have hbad := badAt_lt hil2
    have hnd : nd0 ls = ls[0].node := by cases ls with | nil => simp at hil2 | cons x xs => rfl
    obtain ⟨x, hxx⟩ : ∃ x, x = ls[i] := ⟨_, rfl⟩
    rw [← hxx] at hcs hd1 hd3 hxd hxp hbad
    obtain ⟨m0, hm0⟩ : ∃ m, m = ls[0].node := ⟨_, rfl⟩
    obtain ⟨E, hE⟩ : ∃ E, E = (u8s (hd (ls.take i))).toArray := ⟨_, rfl⟩
    rw [← hE] at yy ⊢
    have hc00 : w.cell? ⟨b, o, none⟩ = some (.int .i64 m0) := by
      have := hrg0 0 (.int .i64 ls[0].node) (by rw [hcs0]; rfl)
      rw [hm0]; simpa using this
    have hW00 : W.cell? ⟨b, o, none⟩ = some (.int .i64 m0) := (y4.out.cell (p := ⟨b, o, none⟩) (block_lt_of_cell hc00)).trans hc00
    have q0 : W.cell? ⟨bx, 0, none⟩ = some (.int .i64 x.node) := by rw [cell_of_row W bx 0 _ _ _ yx.out]; exact lk_c0 hcs
    have q1 : W.cell? ⟨bx, 1, none⟩ = some (.int .i64 x.no) := by rw [cell_of_row W bx 1 _ _ _ yx.out]; exact lk_c1 hcs
    have q3 : W.cell? ⟨bx, 34, none⟩ = some (.slice px x.data.length cx) := by rw [cell_of_row W bx 34 _ _ _ yx.out]; exact lk_c3 hxp hcs
    have q2 : W.rangeAt bx 2 (u8s x.prev) := by
      have := rangeAt_part yx.out 2 (u8s x.prev).toArray (fun j hj => by
        have hj2 : j < x.prev.length := by simpa [u8s_length] using hj
        rw [lk_c2 hcs j hj2]; simp [u8s, hj2])
      simpa using this
    have qi : W.cell? ⟨b3, 0, none⟩ = some (.int .i64 i) := cell_of_one y3.out
    have qf : W.frozen? ⟨b3, 0, none⟩ = false := free_of_one y3.out
    have ql : W.cell? ⟨b1, 0, none⟩ = some (.slice (some ⟨b, o, none⟩) n c) := cell_of_one y1.out
    have qy : W.rangeAt by' 0 E.toList := rangeAt_row yy.out
    have heq : ∀ w : World, (Op.equalIn 10000 35 (.agg (u8s x.prev).toArray) (.agg E)).run Tryd.prog w = .ok (decide (x.prev = hd (ls.take i))) w := fun w => by rw [hE]; exact run_equalIn_digest 9998 _ _ w hxp hhl
    unfold badL at hbad
    rw [hnd, ← hm0] at hbad
    simp only [Array.replicate_succ, Array.replicate_zero, List.push_toArray, List.append_toArray, List.nil_append, List.cons_append]
    have HBAD := Lib.hid hbad
    have Y1 := y1
    have Y2 := y2
    have Y3 := y3
    have Y4 := y4
    have Y5 := y5
    have HXP := Lib.hid hxp
    have hd5 : decide ((65536 : Int) < (x.data.length : Int)) = false := by simp; omega
    have hu := fun (z : UpW W.drew) => Up.trans (Up.refl W).drew z.up
    have k0 : ∀ z : UpW W.drew, z.w.cell? ⟨bx, 0, none⟩ = some (.int .i64 x.node) := fun z => ((hu z).below.cell (p := ⟨bx, 0, none⟩) (block_lt_of_cell q0)).trans q0
    have k1 : ∀ z : UpW W.drew, z.w.cell? ⟨bx, 1, none⟩ = some (.int .i64 x.no) := fun z => ((hu z).below.cell (p := ⟨bx, 1, none⟩) (block_lt_of_cell q1)).trans q1
    have k3 : ∀ z : UpW W.drew, z.w.cell? ⟨bx, 34, none⟩ = some (.slice px x.data.length cx) := fun z => ((hu z).below.cell (p := ⟨bx, 34, none⟩) (block_lt_of_cell q3)).trans q3
    have ki : ∀ z : UpW W.drew, z.w.cell? ⟨b3, 0, none⟩ = some (.int .i64 i) := fun z => ((hu z).below.cell (p := ⟨b3, 0, none⟩) (block_lt_of_cell qi)).trans qi
    have kl : ∀ z : UpW W.drew, z.w.cell? ⟨b1, 0, none⟩ = some (.slice (some ⟨b, o, none⟩) n c) := fun z => ((hu z).below.cell (p := ⟨b1, 0, none⟩) (block_lt_of_cell ql)).trans ql
    have k00 : ∀ z : UpW W.drew, z.w.cell? ⟨b, o, none⟩ = some (.int .i64 m0) := fun z => ((hu z).below.cell (p := ⟨b, o, none⟩) (block_lt_of_cell hW00)).trans hW00
    have k2 := Lib.hid fun z : UpW W.drew => rangeAt_up q2 (hu z)
    have ky := Lib.hid fun z : UpW W.drew => rangeAt_up qy (hu z)
    have hE32 : (u8s x.prev).length = 32 := by rw [u8s_length]; exact hxp
    have HE32 := Lib.hid hE32
    have hEE32 : E.size = 32 := by rw [hE, u8s_arr, hhl]
    have HEE32 := Lib.hid hEE32
    obtain ⟨pe, hpe⟩ : ∃ pe, pe = decide (x.prev = hd (ls.take i)) := ⟨_, rfl⟩
    rw [← hpe] at heq
    have HPE := Lib.hid hpe
    have hn0 : (0 : Int) < n := by omega
    haveI := UpW.some_ W.drew
    clear hu q0 q1 q3 qi ql hW00 q2 qy hbad hxp y1 y2 y3 y4 y5 hE32 hEE32 hE hhl hpe hcs hcs0 hd3 hrg hrg0 hdd hx0 hxx hm0 hnd hx hc00 x1 x2 x3 x4 hB0
    have CASES : (x.node ≠ m0 ∨ x.node < 0 ∨ 24 ≤ x.node ∨ x.no ≠ i ∨ pe = false) ∨ (x.node = m0 ∧ 0 ≤ x.node ∧ x.node < 24 ∧ x.no = i ∧ pe = true) := by
      cases pe <;> simp <;> omega
    gi_wp2_with fail
    rcases CASES with hbb | ⟨g1, g2, g3, g4, g5⟩
    · have HBT : Hid (badAt ls i = true) := by
        show _ = _
        rw [HBAD.out, decide_eq_true_iff]
        rcases hbb with h | h | h | h | h
        · exact .inl h
        · exact .inr (.inl h)
        · exact .inr (.inr (.inl h))
        · exact .inr (.inr (.inr (.inl h)))
        · refine .inr (.inr (.inr (.inr ?_)))
          have h5 := HPE.out
          rw [h] at h5
          simpa using h5.symm
      have HB80 : Hid (chk ls = 80) := chk_bad hil2 HBT.out
      by_cases e1 : x.node = m0
      case neg =>
        have d1 : (x.node == m0) = false := by simpa using e1
        have d1' : (x.node != m0) = true := by simpa using e1
        clear hbb e1
        refine wpIn_region_up (wideF_round l) (by kernel_rfl) (by kernel_rfl) ?_
        repeat (first | (refine wpQuiet_load_arr (by rfl) 35 (.tmp 43) rfl bx 2 rfl (u8s x.prev).toArray _ (fun w' hw' => by (obtain ⟨z, rfl⟩ := hw'; exact k2.out z)) rfl rfl (by rw [u8s_arr, HXP.out]; rfl) ?_) | (refine wpQuiet_load_arr (by rfl) 35 (.tmp 5) rfl by' 0 rfl E _ (fun w' hw' => by (obtain ⟨z, rfl⟩ := hw'; exact ky.out z)) rfl rfl (by rw [HEE32.out]; rfl) ?_) | go_big_quiet_step (fail) | quiet_step (fail))
        refine wpQuiet_nil ?_
        rintro w4 ⟨z, hz⟩
        have u4 : Up W w4 := by rw [hz]; exact Up.trans (Up.refl W).drew z.up
        have z2 := (u4.block b2 (lt_of_block Y2.out)).trans Y2.out
        have Z2 := Lib.hid z2
        have U4 := Lib.hid u4
        have c2 := cell_of_one z2
        have f2 := free_of_one z2
        clear hz k0 k1 k3 ki kl k00 u4 z2 heq hd5
        gi_wp2
        exact ⟨Chg.setCell (Up.chg U4.out _) (.inl (.inl rfl)) _, rfl, one_setCell Z2.out, (Y4.out.trans (U4.out.mono Y4.out.size)).setCell (by show w.heap.size ≤ b2; omega) _, HB80⟩
      by_cases e2 : ¬ x.node < 0
      case neg =>
        have d1 : (x.node == m0) = true := by simpa using e1
        have d1' : (x.node != m0) = false := by simp [e1]
        have d2 : decide (x.node < 0) = true := by simp; omega
        clear hbb e1 e2
        refine wpIn_region_up (wideF_round l) (by kernel_rfl) (by kernel_rfl) ?_
        repeat (first | (refine wpQuiet_load_arr (by rfl) 35 (.tmp 43) rfl bx 2 rfl (u8s x.prev).toArray _ (fun w' hw' => by (obtain ⟨z, rfl⟩ := hw'; exact k2.out z)) rfl rfl (by rw [u8s_arr, HXP.out]; rfl) ?_) | (refine wpQuiet_load_arr (by rfl) 35 (.tmp 5) rfl by' 0 rfl E _ (fun w' hw' => by (obtain ⟨z, rfl⟩ := hw'; exact ky.out z)) rfl rfl (by rw [HEE32.out]; rfl) ?_) | go_big_quiet_step (fail) | quiet_step (fail))
        refine wpQuiet_nil ?_
        rintro w4 ⟨z, hz⟩
        have u4 : Up W w4 := by rw [hz]; exact Up.trans (Up.refl W).drew z.up
        have z2 := (u4.block b2 (lt_of_block Y2.out)).trans Y2.out
        have Z2 := Lib.hid z2
        have U4 := Lib.hid u4
        have c2 := cell_of_one z2
        have f2 := free_of_one z2
        clear hz k0 k1 k3 ki kl k00 u4 z2 heq hd5
        gi_wp2
        exact ⟨Chg.setCell (Up.chg U4.out _) (.inl (.inl rfl)) _, rfl, one_setCell Z2.out, (Y4.out.trans (U4.out.mono Y4.out.size)).setCell (by show w.heap.size ≤ b2; omega) _, HB80⟩
      by_cases e3 : ¬ (24 : Int) ≤ x.node
      case neg =>
        have d1 : (x.node == m0) = true := by simpa using e1
        have d1' : (x.node != m0) = false := by simp [e1]
        have d2 : decide (x.node < 0) = false := by simpa using e2
        have d3 : decide ((24 : Int) ≤ x.node) = true := by simp; omega
        clear hbb e1 e2 e3
        refine wpIn_region_up (wideF_round l) (by kernel_rfl) (by kernel_rfl) ?_
        repeat (first | (refine wpQuiet_load_arr (by rfl) 35 (.tmp 43) rfl bx 2 rfl (u8s x.prev).toArray _ (fun w' hw' => by (obtain ⟨z, rfl⟩ := hw'; exact k2.out z)) rfl rfl (by rw [u8s_arr, HXP.out]; rfl) ?_) | (refine wpQuiet_load_arr (by rfl) 35 (.tmp 5) rfl by' 0 rfl E _ (fun w' hw' => by (obtain ⟨z, rfl⟩ := hw'; exact ky.out z)) rfl rfl (by rw [HEE32.out]; rfl) ?_) | go_big_quiet_step (fail) | quiet_step (fail))
        refine wpQuiet_nil ?_
        rintro w4 ⟨z, hz⟩
        have u4 : Up W w4 := by rw [hz]; exact Up.trans (Up.refl W).drew z.up
        have z2 := (u4.block b2 (lt_of_block Y2.out)).trans Y2.out
        have Z2 := Lib.hid z2
        have U4 := Lib.hid u4
        have c2 := cell_of_one z2
        have f2 := free_of_one z2
        clear hz k0 k1 k3 ki kl k00 u4 z2 heq hd5
        gi_wp2
        exact ⟨Chg.setCell (Up.chg U4.out _) (.inl (.inl rfl)) _, rfl, one_setCell Z2.out, (Y4.out.trans (U4.out.mono Y4.out.size)).setCell (by show w.heap.size ≤ b2; omega) _, HB80⟩
      by_cases e4 : x.no = (i : Int)
      case neg =>
        have d1 : (x.node == m0) = true := by simpa using e1
        have d1' : (x.node != m0) = false := by simp [e1]
        have d2 : decide (x.node < 0) = false := by simpa using e2
        have d3 : decide ((24 : Int) ≤ x.node) = false := by simpa using e3
        have d4 : (x.no == (i : Int)) = false := by simpa using e4
        have d4' : (x.no != (i : Int)) = true := by simpa using e4
        clear hbb e1 e2 e3 e4
        refine wpIn_region_up (wideF_round l) (by kernel_rfl) (by kernel_rfl) ?_
        repeat (first | (refine wpQuiet_load_arr (by rfl) 35 (.tmp 43) rfl bx 2 rfl (u8s x.prev).toArray _ (fun w' hw' => by (obtain ⟨z, rfl⟩ := hw'; exact k2.out z)) rfl rfl (by rw [u8s_arr, HXP.out]; rfl) ?_) | (refine wpQuiet_load_arr (by rfl) 35 (.tmp 5) rfl by' 0 rfl E _ (fun w' hw' => by (obtain ⟨z, rfl⟩ := hw'; exact ky.out z)) rfl rfl (by rw [HEE32.out]; rfl) ?_) | go_big_quiet_step (fail) | quiet_step (fail))
        refine wpQuiet_nil ?_
        rintro w4 ⟨z, hz⟩
        have u4 : Up W w4 := by rw [hz]; exact Up.trans (Up.refl W).drew z.up
        have z2 := (u4.block b2 (lt_of_block Y2.out)).trans Y2.out
        have Z2 := Lib.hid z2
        have U4 := Lib.hid u4
        have c2 := cell_of_one z2
        have f2 := free_of_one z2
        clear hz k0 k1 k3 ki kl k00 u4 z2 heq hd5
        gi_wp2
        exact ⟨Chg.setCell (Up.chg U4.out _) (.inl (.inl rfl)) _, rfl, one_setCell Z2.out, (Y4.out.trans (U4.out.mono Y4.out.size)).setCell (by show w.heap.size ≤ b2; omega) _, HB80⟩
      have e5 : pe = false := by
        rcases hbb with h | h | h | h | h
        · exact absurd e1 h
        · exact absurd h e2
        · exact absurd h e3
        · exact absurd e4 h
        · exact h
      have d1 : (x.node == m0) = true := by simpa using e1
      have d1' : (x.node != m0) = false := by simp [e1]
      have d2 : decide (x.node < 0) = false := by simpa using e2
      have d3 : decide ((24 : Int) ≤ x.node) = false := by simpa using e3
      have d4 : (x.no == (i : Int)) = true := by simpa using e4
      have d4' : (x.no != (i : Int)) = false := by simp [e4]
      subst e5
      clear hbb e1 e2 e3 e4
      refine wpIn_region_up (wideF_round l) (by kernel_rfl) (by kernel_rfl) ?_
      repeat (first | (refine wpQuiet_load_arr (by rfl) 35 (.tmp 43) rfl bx 2 rfl (u8s x.prev).toArray _ (fun w' hw' => by (obtain ⟨z, rfl⟩ := hw'; exact k2.out z)) rfl rfl (by rw [u8s_arr, HXP.out]; rfl) ?_) | (refine wpQuiet_load_arr (by rfl) 35 (.tmp 5) rfl by' 0 rfl E _ (fun w' hw' => by (obtain ⟨z, rfl⟩ := hw'; exact ky.out z)) rfl rfl (by rw [HEE32.out]; rfl) ?_) | go_big_quiet_step (fail) | quiet_step (fail))
      refine wpQuiet_nil ?_
      rintro w4 ⟨z, hz⟩
      have u4 : Up W w4 := by rw [hz]; exact Up.trans (Up.refl W).drew z.up
      have z2 := (u4.block b2 (lt_of_block Y2.out)).trans Y2.out
      have Z2 := Lib.hid z2
      have U4 := Lib.hid u4
      have c2 := cell_of_one z2
      have f2 := free_of_one z2
      clear hz k0 k1 k3 ki kl k00 u4 z2 heq hd5
      gi_wp2
      exact ⟨Chg.setCell (Up.chg U4.out _) (.inl (.inl rfl)) _, rfl, one_setCell Z2.out, (Y4.out.trans (U4.out.mono Y4.out.size)).setCell (by show w.heap.size ≤ b2; omega) _, HB80⟩
    · have HB : Hid (badAt ls i = false) := by
        show _ = _
        rw [HBAD.out, decide_eq_false_iff_not]
        have h5 := HPE.out
        rw [g5] at h5
        have h6 : x.prev = hd (ls.take i) := by simpa using h5.symm
        rintro (h | h | h | h | h)
        · exact h g1
        · omega
        · omega
        · exact h g4
        · exact h h6
      have d1 : (x.node == m0) = true := by simp [g1]
      have d1' : (x.node != m0) = false := by simp [g1]
      have d2 : decide (x.node < 0) = false := by simp; omega
      have d3 : decide ((24 : Int) ≤ x.node) = false := by simp; omega
      have d4 : (x.no == (i : Int)) = true := by simp [g4]
      have d4' : (x.no != (i : Int)) = false := by simp [g4]
      subst g5
      clear g1 g2 g3 g4
      refine wpIn_region_up (wideF_round l) (by kernel_rfl) (by kernel_rfl) ?_
      repeat (first | (refine wpQuiet_load_arr (by rfl) 35 (.tmp 43) rfl bx 2 rfl (u8s x.prev).toArray _ (fun w' hw' => by (obtain ⟨z, rfl⟩ := hw'; exact k2.out z)) rfl rfl (by rw [u8s_arr, HXP.out]; rfl) ?_) | (refine wpQuiet_load_arr (by rfl) 35 (.tmp 5) rfl by' 0 rfl E _ (fun w' hw' => by (obtain ⟨z, rfl⟩ := hw'; exact ky.out z)) rfl rfl (by rw [HEE32.out]; rfl) ?_) | go_big_quiet_step (fail) | quiet_step (fail))
      refine wpQuiet_nil ?_
      rintro w4 ⟨z, hz⟩
      have u4 : Up W w4 := by rw [hz]; exact Up.trans (Up.refl W).drew z.up
      have z3 := (u4.block b3 (lt_of_block Y3.out)).trans Y3.out
      have Z3 := Lib.hid z3
      have U4 := Lib.hid u4
      have c3 := cell_of_one z3
      have f3 := free_of_one z3
      clear hz k0 k1 k3 ki kl k00 d1 d1' d2 d3 d4 d4' u4 z3 heq hd5
      gi_wp2
      have el : ((List.range i ++ [i]).length : Nat) = i + 1 := by simp
      have hS1 : ∀ k, k ≠ b3 → k < W.heap.size → (w4.setCell ⟨b3, 0, none⟩ (.int .i64 ((i : Int) + 1))).heap[k]? = W.heap[k]? := fun k hk hl => (Below.heap_setCell _ _ _ _ hk).trans (U4.out.block k hl)
      refine ⟨Chg.setCell (Up.chg U4.out _) (.inl (.inr rfl)) _, (hS1 b1 (by omega) (lt_of_block Y1.out)).trans Y1.out, (hS1 b2 (by omega) (lt_of_block Y2.out)).trans Y2.out, ?_, ?_, ?_⟩
      · show _ = _
        rw [el]
        exact one_setCell Z3.out
      · exact (Y4.out.trans (U4.out.mono Y4.out.size)).setCell (by show w.heap.size ≤ b3; omega) _
      · intro j hj
        rw [el] at hj
        rcases Nat.lt_or_ge j i with h | h
        · exact Y5.out j h
        · obtain rfl : j = i := by omega
          exact HB.out
  case done =>
    rintro W ⟨y1, y2, y3, y4, y5⟩ hlt hdf
    have c2 := cell_of_one y2.out
    have f2 := free_of_one y2.out
    have Y2 := y2
    have Y4 := y4
    have HDF := Lib.hid hdf
    have HC : Hid (chk ls = 0) := chk_good (fun j hj => y5.out j (by rw [List.length_range, HN.out]; exact hj))
    clear y1 y2 y3 y4 y5 hdf x1 x2 x3 x4 hB0
    gi_wp2
    have hD2 : (W.setCell ⟨b2, 0, none⟩ (.int .i64 0)).heap[Wr.heap.size]? = some (.deferred (some [])) := (Below.heap_setCell _ _ _ _ (by show Wr.heap.size ≠ b2; omega)).trans HDF.out
    have hc2 := one_setCell (u := .int .i64 0) Y2.out
    have hB2 := Y4.out.setCell (p := ⟨b2, 0, none⟩) (by show w.heap.size ≤ b2; omega) (.int .i64 0)
    generalize W.setCell ⟨b2, 0, none⟩ (.int .i64 0) = W2 at *
    have hc3 : (W2.putObj Wr.heap.size (.deferred none)).heap[b2]? = _ := (World.putObj_heap_other (by omega)).trans hc2
    have hc4 := cell_of_one hc3
    refine ⟨by simp, .inl ⟨_, _, rfl, run_takeDeferred hD2, ?_⟩⟩
    refine ⟨.int .i64 0, by simp [results, Tryd.results16, go_sem, hc4], ?_⟩
    rw [HC.out]
    exact ⟨rfl, hB2.trans (((Chg.refl (fun k => k = Wr.heap.size) W2).putObj (.inl rfl) _).below (by have := hB2.size; omega) (fun k hk => by omega))⟩
  case stop =>
    rintro cd pre rest W hx ⟨rfl, y2, y4, y5⟩ hlt hdf
    have Y2 := y2
    have Y4 := y4
    have Y5 := y5
    have HDF := Lib.hid hdf
    clear y2 y4 y5 hdf x1 x2 x3 x4 hB0 hx
    gi_wp2
    have hc3 : (W.putObj Wr.heap.size (.deferred none)).heap[b2]? = _ := (World.putObj_heap_other (by omega)).trans Y2.out
    have hc4 := cell_of_one hc3
    refine ⟨by simp, .inl ⟨_, _, rfl, run_takeDeferred HDF.out, ?_⟩⟩
    refine ⟨.int .i64 80, by simp [results, Tryd.results16, go_sem, hc4], ?_⟩
    rw [Y5.out]
    exact ⟨rfl, Y4.out.trans (((Chg.refl (fun k => k = Wr.heap.size) W).putObj (.inl rfl) _).below (by have := Y4.out.size; omega) (fun k hk => by omega))⟩

end Go.Proofs.YtpafambdccejnaaDoor

namespace Go.Proofs.YtpafambdccejnaaDoor
open Go.RowKit
set_option linter.unusedVariables false

set_option maxRecDepth 100000 in
set_option maxHeartbeats 2000000 in
theorem rCheck_calls (p : Option Addr) (n c : Nat) (ls : List Lk) (w : World) (hn : n = ls.length) (hf : Few ls) (h : Links w p ls) (hc : n ≤ c) (hcm : c ≤ maxLen) :
    Calls Tryd.prog 21 #[.slice p n c] w fun e w' => e = .returned (.int .i64 (chk ls)) ∧ Up w w' := by
  have hn100 : n ≤ 100 := by rw [hn]; exact hf.1
  obtain ⟨D, hD⟩ := h.fn
  have HDS := Lib.hid fun i (hi : i < n) => (DFn.size hf hD i (by omega) : (D i).size = 35)
  have HDC := Lib.hid fun i (hi : i < n) => DFn.one hD i (by omega)
  have HHD := Lib.hid fun i (hi : i < n) W (hu : Up w W) => rhead_calls p i c (ls.take i) W (by simp; omega) (hf.take i) ((h.take i).up hu)
  have HN := Lib.hid hn
  have HF := Lib.hid hf
  have HDD := Lib.hid hD
  have h1024 : decide ((1024 : Int) < (n : Int)) = false := by simp; omega
  clear hn hf hD h
  go_enter Tryd.func21, Tryd.ntmps21
  go_wp2
  go_loopw [3] (fun v3 wq => ∃ i : Nat, i ≤ n ∧ v3 = .int .i64 i ∧ Hid (∀ j, j < i → badAt ls j = false) ∧ Hid (Up w wq))
    (fun v3 _ => n - (intOf v3).toNat)
  case atStart => exact ⟨0, by omega, rfl, fun j hj => by omega, Up.refl _⟩
  case round =>
    obtain ⟨i, hi, rfl, HJ, HU⟩ := hrel
    by_cases hlt : i < n
    case neg =>
      have HC : Hid (chk ls = 0) := chk_good fun j hj => HJ.out j (by rw [← HN.out] at hj; omega)
      go_wp2
      go_ret
      exact ⟨by rw [HC.out] <;> rfl, HU.out⟩
    have hil2 : i < ls.length := by rw [← HN.out]; exact hlt
    obtain ⟨b, o, rfl, hdd⟩ := HDD.out (by rintro rfl; simp at hil2)
    obtain ⟨⟨px, cx, hcs, hd1, hd2, hd3⟩, hrg⟩ := hdd i hil2
    obtain ⟨⟨p0, c0, hcs0, _, _, _⟩, hrg0⟩ := hdd 0 (by omega)
    have hx0 := HF.out.2 _ (List.getElem_mem hil2)
    have hxd : ls[i].data.length ≤ 300 := hx0.data
    have hxp := hx0.prev
    have hhl := hd_len (ls.take i)
    have hbad := badAt_lt hil2
    have hnd : nd0 ls = ls[0].node := by cases ls with | nil => simp at hil2 | cons x xs => rfl
    obtain ⟨x, hxx⟩ : ∃ x, x = ls[i] := ⟨_, rfl⟩
    rw [← hxx] at hcs hd1 hd3 hxd hxp hbad
    obtain ⟨m0, hm0⟩ : ∃ m, m = ls[0].node := ⟨_, rfl⟩
    have hc00 : w.cell? ⟨b, o, none⟩ = some (.int .i64 m0) := by
      have := hrg0 0 (.int .i64 ls[0].node) (by rw [hcs0]; rfl)
      rw [hm0]; simpa using this
    unfold badL at hbad
    rw [hnd, ← hm0] at hbad
    have HBAD := Lib.hid hbad
    have HXP := Lib.hid hxp
    have HS := Lib.hid (HDS.out i hlt)
    have HC := Lib.hid (HDC.out i hlt)
    have HRG : Hid (wr.rangeAt b (o + i * 35) (D i).toList) := rangeAt_up hrg HU.out
    have HCS := Lib.hid hcs
    have HC00 := Lib.hid hc00
    obtain ⟨pe, hpe⟩ : ∃ pe, pe = decide (x.prev = hd (ls.take i)) := ⟨_, rfl⟩
    have HPE := Lib.hid hpe
    have heq : ∀ w : World, (Op.equalIn 10000 35 (.agg (u8s x.prev).toArray) (.agg (u8s (hd (ls.take i))).toArray)).run Tryd.prog w = .ok pe w := fun w => by rw [hpe]; exact run_equalIn_digest 9998 _ _ w hxp hhl
    have HEQ := Lib.hid heq
    have HH := Lib.hid (HHD.out i hlt)
    clear hbad hxp hrg hcs hc00 hpe heq hhl hcs0 hd3 hrg0 hdd hx0 hxx hm0 hnd
    go_wp2_with (first | (refine wpList_load_arr rfl 37 (.tmp 16) rfl b (o + i * 35) rfl (D i) _ HRG.out rfl rfl (by rw [HS.out]; rfl) ?_) | (refine wpList_allocG rfl 37 35 allocsLink rfl ?_; intro W2 u2 z2 hz2; obtain ⟨Z2, hZ2, hb2⟩ := hz2; have U2 := Lib.hid u2; have HZ2 := Lib.hid hZ2; have HB2 := Lib.hid hb2; clear u2 z2 hZ2 hb2) | (refine wpList_store_row rfl 37 (.tmp 4) (.tmp 17) rfl _ (D i) rfl rfl 37 _ HB2.out (by rw [HS.out]; rfl) (by rw [HZ2.out, HS.out]) HC.out ?_))
    obtain ⟨bx, hbx⟩ : ∃ b, b = wr.heap.size := ⟨_, rfl⟩
    have HB2' := HB2.out
    rw [← hbx] at HB2'
    rw [← hbx]
    refine wp_named ?_
    intro W hW
    have u3 : Up wr W := setRow_upN hW U2.out (by omega)
    have yx := setRow_named hW HB2'
    have U0 : Hid (Up w W) := Up.trans HU.out u3
    have hW00 : W.cell? ⟨b, o, none⟩ = some (.int .i64 m0) := (U0.out.below.cell (p := ⟨b, o, none⟩) (block_lt_of_cell HC00.out)).trans HC00.out
    have q0 : W.cell? ⟨bx, 0, none⟩ = some (.int .i64 x.node) := by rw [cell_of_row W bx 0 _ _ _ yx]; exact lk_c0 HCS.out
    have q1 : W.cell? ⟨bx, 1, none⟩ = some (.int .i64 x.no) := by rw [cell_of_row W bx 1 _ _ _ yx]; exact lk_c1 HCS.out
    have q3 : W.cell? ⟨bx, 34, none⟩ = some (.slice px x.data.length cx) := by rw [cell_of_row W bx 34 _ _ _ yx]; exact lk_c3 HXP.out HCS.out
    have q2 : W.rangeAt bx 2 (u8s x.prev) := by
      have := rangeAt_part yx 2 (u8s x.prev).toArray (fun j hj => by
        have hj2 : j < x.prev.length := by simpa [u8s_length] using hj
        rw [lk_c2 HCS.out j hj2]; simp [u8s, hj2])
      simpa using this
    have hd5 : decide ((65536 : Int) < (x.data.length : Int)) = false := by simp; omega
    have hu := fun (z : UpW W.drew) => Up.trans (Up.refl W).drew z.up
    have k0 : ∀ z : UpW W.drew, z.w.cell? ⟨bx, 0, none⟩ = some (.int .i64 x.node) := fun z => ((hu z).below.cell (p := ⟨bx, 0, none⟩) (block_lt_of_cell q0)).trans q0
    have k1 : ∀ z : UpW W.drew, z.w.cell? ⟨bx, 1, none⟩ = some (.int .i64 x.no) := fun z => ((hu z).below.cell (p := ⟨bx, 1, none⟩) (block_lt_of_cell q1)).trans q1
    have k3 : ∀ z : UpW W.drew, z.w.cell? ⟨bx, 34, none⟩ = some (.slice px x.data.length cx) := fun z => ((hu z).below.cell (p := ⟨bx, 34, none⟩) (block_lt_of_cell q3)).trans q3
    have k00 : ∀ z : UpW W.drew, z.w.cell? ⟨b, o, none⟩ = some (.int .i64 m0) := fun z => ((hu z).below.cell (p := ⟨b, o, none⟩) (block_lt_of_cell hW00)).trans hW00
    have k2 := Lib.hid fun z : UpW W.drew => rangeAt_up q2 (hu z)
    have heq := HEQ.out
    have hn0 : (0 : Int) < n := by omega
    have hic : (i : Int) ≤ c := by omega
    have hi0 : (0 : Int) ≤ i := by omega
    haveI := UpW.some_ W.drew
    clear hu q0 q1 q3 hW00 q2 yx u3 hW HB2' HB2 hbx
    have CASES : (x.node ≠ m0 ∨ x.node < 0 ∨ 24 ≤ x.node ∨ x.no ≠ i ∨ pe = false) ∨ (x.node = m0 ∧ 0 ≤ x.node ∧ x.node < 24 ∧ x.no = i ∧ pe = true) := by
      cases pe <;> simp <;> omega
    rcases CASES with hbb | ⟨g1, g2, g3, g4, g5⟩
    · have HBT : Hid (badAt ls i = true) := by
        show _ = _
        rw [HBAD.out, decide_eq_true_iff]
        rcases hbb with h | h | h | h | h
        · exact .inl h
        · exact .inr (.inl h)
        · exact .inr (.inr (.inl h))
        · exact .inr (.inr (.inr (.inl h)))
        · refine .inr (.inr (.inr (.inr ?_)))
          have h5 := HPE.out
          rw [h] at h5
          simpa using h5.symm
      have HB80 : Hid (chk ls = 80) := chk_bad hil2 HBT.out
      by_cases e1 : ¬ x.node < 0
      case neg =>
        have d2 : decide (x.node < 0) = true := by simp; omega
        clear hbb e1
        refine wp_region_up_k (by kernel_rfl) (by kernel_rfl) ?_
        intro R hR
        quiet_step (fail)
        repeat (first | go_big_quiet_step (fail) | (refine wpQuiet_load_arr (by rfl) 35 (.tmp 48) rfl bx 2 rfl (u8s x.prev).toArray _ (fun w' hw' => by (obtain ⟨z, rfl⟩ := hw'; exact k2.out z)) rfl rfl (by rw [u8s_arr, HXP.out]; rfl) ?_) | quiet_step ((go_at_call 22; with_reducible exact Calls.quiet_up (HH.out _ (Up.trans U0.out (Up.trans (Up.refl W).drew (UpW.up _)))))))
        refine wpQuiet_nil (hR _ ?_)
        clear hR R
        rintro w4 ⟨z, hz⟩
        have U4 : Hid (Up w w4) := by show Up w w4; rw [hz]; exact Up.trans U0.out (Up.trans (Up.refl W).drew z.up)
        clear hz k0 k1 k3 k00 heq hd5
        go_wp2
        go_ret
        exact ⟨by rw [HB80.out] <;> rfl, U4.out⟩
      by_cases e2 : ¬ (24 : Int) ≤ x.node
      case neg =>
        have d2 : decide (x.node < 0) = false := by simpa using e1
        have d3 : decide ((24 : Int) ≤ x.node) = true := by simp; omega
        clear hbb e1 e2
        refine wp_region_up_k (by kernel_rfl) (by kernel_rfl) ?_
        intro R hR
        quiet_step (fail)
        repeat (first | go_big_quiet_step (fail) | (refine wpQuiet_load_arr (by rfl) 35 (.tmp 48) rfl bx 2 rfl (u8s x.prev).toArray _ (fun w' hw' => by (obtain ⟨z, rfl⟩ := hw'; exact k2.out z)) rfl rfl (by rw [u8s_arr, HXP.out]; rfl) ?_) | quiet_step ((go_at_call 22; with_reducible exact Calls.quiet_up (HH.out _ (Up.trans U0.out (Up.trans (Up.refl W).drew (UpW.up _)))))))
        refine wpQuiet_nil (hR _ ?_)
        clear hR R
        rintro w4 ⟨z, hz⟩
        have U4 : Hid (Up w w4) := by show Up w w4; rw [hz]; exact Up.trans U0.out (Up.trans (Up.refl W).drew z.up)
        clear hz k0 k1 k3 k00 heq hd5
        go_wp2
        go_ret
        exact ⟨by rw [HB80.out] <;> rfl, U4.out⟩
      by_cases e3 : x.node = m0
      case neg =>
        have d2 : decide (x.node < 0) = false := by simpa using e1
        have d3 : decide ((24 : Int) ≤ x.node) = false := by simpa using e2
        have d1 : (x.node == m0) = false := by simpa using e3
        have d1' : (x.node != m0) = true := by simpa using e3
        clear hbb e1 e2 e3
        refine wp_region_up_k (by kernel_rfl) (by kernel_rfl) ?_
        intro R hR
        quiet_step (fail)
        repeat (first | go_big_quiet_step (fail) | (refine wpQuiet_load_arr (by rfl) 35 (.tmp 48) rfl bx 2 rfl (u8s x.prev).toArray _ (fun w' hw' => by (obtain ⟨z, rfl⟩ := hw'; exact k2.out z)) rfl rfl (by rw [u8s_arr, HXP.out]; rfl) ?_) | quiet_step ((go_at_call 22; with_reducible exact Calls.quiet_up (HH.out _ (Up.trans U0.out (Up.trans (Up.refl W).drew (UpW.up _)))))))
        refine wpQuiet_nil (hR _ ?_)
        clear hR R
        rintro w4 ⟨z, hz⟩
        have U4 : Hid (Up w w4) := by show Up w w4; rw [hz]; exact Up.trans U0.out (Up.trans (Up.refl W).drew z.up)
        clear hz k0 k1 k3 k00 heq hd5
        go_wp2
        go_ret
        exact ⟨by rw [HB80.out] <;> rfl, U4.out⟩
      by_cases e4 : x.no = (i : Int)
      case neg =>
        have d2 : decide (x.node < 0) = false := by simpa using e1
        have d3 : decide ((24 : Int) ≤ x.node) = false := by simpa using e2
        have d1 : (x.node == m0) = true := by simpa using e3
        have d1' : (x.node != m0) = false := by simp [e3]
        have d4 : (x.no == (i : Int)) = false := by simpa using e4
        have d4' : (x.no != (i : Int)) = true := by simpa using e4
        clear hbb e1 e2 e3 e4
        refine wp_region_up_k (by kernel_rfl) (by kernel_rfl) ?_
        intro R hR
        quiet_step (fail)
        repeat (first | go_big_quiet_step (fail) | (refine wpQuiet_load_arr (by rfl) 35 (.tmp 48) rfl bx 2 rfl (u8s x.prev).toArray _ (fun w' hw' => by (obtain ⟨z, rfl⟩ := hw'; exact k2.out z)) rfl rfl (by rw [u8s_arr, HXP.out]; rfl) ?_) | quiet_step ((go_at_call 22; with_reducible exact Calls.quiet_up (HH.out _ (Up.trans U0.out (Up.trans (Up.refl W).drew (UpW.up _)))))))
        refine wpQuiet_nil (hR _ ?_)
        clear hR R
        rintro w4 ⟨z, hz⟩
        have U4 : Hid (Up w w4) := by show Up w w4; rw [hz]; exact Up.trans U0.out (Up.trans (Up.refl W).drew z.up)
        clear hz k0 k1 k3 k00 heq hd5
        go_wp2
        go_ret
        exact ⟨by rw [HB80.out] <;> rfl, U4.out⟩
      have e5 : pe = false := by
        rcases hbb with h | h | h | h | h
        · exact absurd e3 h
        · exact absurd h e1
        · exact absurd h e2
        · exact absurd e4 h
        · exact h
      have d2 : decide (x.node < 0) = false := by simpa using e1
      have d3 : decide ((24 : Int) ≤ x.node) = false := by simpa using e2
      have d1 : (x.node == m0) = true := by simpa using e3
      have d1' : (x.node != m0) = false := by simp [e3]
      have d4 : (x.no == (i : Int)) = true := by simpa using e4
      have d4' : (x.no != (i : Int)) = false := by simp [e4]
      subst e5
      clear hbb e1 e2 e3 e4
      refine wp_region_up_k (by kernel_rfl) (by kernel_rfl) ?_
      intro R hR
      quiet_step (fail)
      repeat (first | go_big_quiet_step (fail) | (refine wpQuiet_load_arr (by rfl) 35 (.tmp 48) rfl bx 2 rfl (u8s x.prev).toArray _ (fun w' hw' => by (obtain ⟨z, rfl⟩ := hw'; exact k2.out z)) rfl rfl (by rw [u8s_arr, HXP.out]; rfl) ?_) | quiet_step ((go_at_call 22; with_reducible exact Calls.quiet_up (HH.out _ (Up.trans U0.out (Up.trans (Up.refl W).drew (UpW.up _)))))))
      refine wpQuiet_nil (hR _ ?_)
      clear hR R
      rintro w4 ⟨z, hz⟩
      have U4 : Hid (Up w w4) := by show Up w w4; rw [hz]; exact Up.trans U0.out (Up.trans (Up.refl W).drew z.up)
      clear hz k0 k1 k3 k00 heq hd5
      go_wp2
      go_ret
      exact ⟨by rw [HB80.out] <;> rfl, U4.out⟩
    · have HB : Hid (badAt ls i = false) := by
        show _ = _
        rw [HBAD.out, decide_eq_false_iff_not]
        have h5 := HPE.out
        rw [g5] at h5
        have h6 : x.prev = hd (ls.take i) := by simpa using h5.symm
        rintro (h | h | h | h | h)
        · exact h g1
        · omega
        · omega
        · exact h g4
        · exact h h6
      have d1 : (x.node == m0) = true := by simp [g1]
      have d1' : (x.node != m0) = false := by simp [g1]
      have d2 : decide (x.node < 0) = false := by simp; omega
      have d3 : decide ((24 : Int) ≤ x.node) = false := by simp; omega
      have d4 : (x.no == (i : Int)) = true := by simp [g4]
      have d4' : (x.no != (i : Int)) = false := by simp [g4]
      subst g5
      clear g1 g2 g3 g4
      refine wp_region_up_k (by kernel_rfl) (by kernel_rfl) ?_
      intro R hR
      quiet_step (fail)
      repeat (first | go_big_quiet_step (fail) | (refine wpQuiet_load_arr (by rfl) 35 (.tmp 48) rfl bx 2 rfl (u8s x.prev).toArray _ (fun w' hw' => by (obtain ⟨z, rfl⟩ := hw'; exact k2.out z)) rfl rfl (by rw [u8s_arr, HXP.out]; rfl) ?_) | quiet_step ((go_at_call 22; with_reducible exact Calls.quiet_up (HH.out _ (Up.trans U0.out (Up.trans (Up.refl W).drew (UpW.up _)))))))
      refine wpQuiet_nil (hR _ ?_)
      clear hR R
      rintro w4 ⟨z, hz⟩
      have U4 : Hid (Up w w4) := by show Up w w4; rw [hz]; exact Up.trans U0.out (Up.trans (Up.refl W).drew z.up)
      have HY : Hid (∀ j, j < i + 1 → badAt ls j = false) := fun j hj => by
        rcases Nat.lt_or_ge j i with h | h
        · exact HJ.out j h
        · obtain rfl : j = i := by omega
          exact HB.out
      clear hz k0 k1 k3 k00 d1 d1' d2 d3 d4 d4' heq hd5
      go_wp2
      exact ⟨⟨i + 1, by omega, by go_num, HY, U4⟩, by simp [intOf]; omega⟩

end Go.Proofs.YtpafambdccejnaaDoor
