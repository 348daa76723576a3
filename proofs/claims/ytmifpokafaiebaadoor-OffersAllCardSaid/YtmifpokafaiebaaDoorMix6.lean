/- A REGION THAT DRAWS ITS ORDER, by a script that may fork: still ones, forced ones, and two that may come up in either order. It names no program. -/
import Derived.Test.YtmifpokafaiebaaDoorOgC
namespace Go.Proofs.YtmifpokafaiebaaDoor
open Go

inductive Scr where
  | nil
  | still (k : Nat) (s : Scr)
  | one (k : Nat) (s : Scr)
  | two (k1 : Nat) (s1 : Scr) (k2 : Nat) (s2 : Scr)

section
variable {P : Program} {ops : Array Oper} {md : Region.Mode} {C : World → Prop} {Q : Exit → Act → World → Prop}

def stepScr (P : Program) (C : World → Prop) (Q : Exit → Act → World → Prop) (ops : Array Oper) (o : Oper) (N : Act → World → Prop) (a : Act) (w : World) : Prop :=
  if Region.wanted o (yielded ops a.tmps) then o.wp P a w (fun a' w' => C w' ∧ N a' w') Q else C w ∧ N (a.put o.dst undef) w
def wpScr (P : Program) (ops : Array Oper) (C : World → Prop) (Q : Exit → Act → World → Prop) : Scr → Act → World → Prop
  | .nil, a, w => Q .normal a w
  | .still k s, a, w => ∃ o, ops[k]? = some o ∧ if Region.wanted o (yielded ops a.tmps) then (∃ v, (∀ w, C w → o.quietAt P a (fun w'' => w'' = w) w v) ∧ wpScr P ops C Q s (a.put o.dst v) w) else wpScr P ops C Q s (a.put o.dst undef) w
  | .one k s, a, w => ∃ o, ops[k]? = some o ∧ stepScr P C Q ops o (wpScr P ops C Q s) a w
  | .two k1 s1 k2 s2, a, w => (∃ o, ops[k1]? = some o ∧ stepScr P C Q ops o (wpScr P ops C Q s1) a w) ∧ (∃ o, ops[k2]? = some o ∧ stepScr P C Q ops o (wpScr P ops C Q s2) a w)
theorem wpScr_nil {a : Act} {w : World} (h : Q .normal a w) : wpScr P ops C Q .nil a w := h
theorem wpScr_still {a : Act} {w : World} {k : Nat} {o : Oper} {s : Scr} (ho : ops[k]? = some o)
    (h : ∀ K : Act → Prop, (∀ a, wpScr P ops C Q s a w → K a) → if Region.wanted o (yielded ops a.tmps) then (∃ v, (∀ w, C w → o.quietAt P a (fun w'' => w'' = w) w v) ∧ K (a.put o.dst v)) else K (a.put o.dst undef)) : wpScr P ops C Q (.still k s) a w :=
  ⟨o, ho, h _ (fun _ h => h)⟩
theorem stepScr_go {a : Act} {w : World} {k : Nat} {o : Oper} {N : Act → World → Prop} (ho : ops[k]? = some o)
    (h : ∀ K : Act → World → Prop, (∀ a' w', C w' → N a' w' → K a' w') → if Region.wanted o (yielded ops a.tmps) then o.wp P a w K Q else K (a.put o.dst undef) w) : ∃ o, ops[k]? = some o ∧ stepScr P C Q ops o N a w :=
  ⟨o, ho, h _ (fun _ _ h1 h2 => ⟨h1, h2⟩)⟩
theorem stepScr_want {a : Act} {w : World} {k : Nat} {o : Oper} {N : Act → World → Prop} (ho : ops[k]? = some o) (hw : Region.wanted o (yielded ops a.tmps) = true)
    (h : ∀ K : Act → World → Prop, (∀ a' w', C w' → N a' w' → K a' w') → o.wp P a w K Q) : ∃ o, ops[k]? = some o ∧ stepScr P C Q ops o N a w :=
  stepScr_go ho fun K hK => by rw [if_pos hw]; exact h K hK
theorem wpScr_still_arr {a : Act} {w : World} {s : Scr} {k : Nat} {o : Oper} (hk : ops[k]? = some o) (hw : Region.wanted o (yielded ops a.tmps) = true) (ty : TypeId) (x : Operand) (ho : o.op = .load ty x)
    (b off : Nat) (hx : a.eval x = .pointer (some ⟨b, off, none⟩)) (D : Array Value) (d : TypeDesc) (hc : ∀ w, C w → w.rangeAt b off D.toList)
    (hu : P.underlying ty = some d) (hd : d.isRow = true) (hi : (P.info? ty).map (·.size) = some D.size)
    (h : wpScr P ops C Q s (a.put o.dst (.agg D)) w) : wpScr P ops C Q (.still k s) a w := by
  refine ⟨o, hk, ?_⟩
  rw [if_pos hw]
  refine ⟨.agg D, fun w hw' => ?_, h⟩
  have hr := run_load_arr (P := P) (w := w) (hc w hw') hu hd hi
  unfold Oper.quietAt execOp
  rw [ho]
  simp only [hx, Sem.run_bind, hr, Result.andThen_ok, Sem.run_pure]
  exact ⟨rfl, rfl⟩

def scrB (md : Region.Mode) (ops : Array Oper) : Nat → Scr → Array Bool → Bool
  | 0, .nil, listed => (Region.ready md ops listed).isEmpty
  | n + 1, .still k s, listed => (ops[k]?).isSome && (Region.ready md ops listed).contains k && Region.free md ops listed k && scrB md ops n s (listed.setIfInBounds k true)
  | n + 1, .one k s, listed => decide (Region.ready md ops listed = [k]) && scrB md ops n s (listed.setIfInBounds k true)
  | n + 1, .two k1 s1 k2 s2, listed => decide (Region.ready md ops listed = [k1, k2]) && scrB md ops n s1 (listed.setIfInBounds k1 true) && scrB md ops n s2 (listed.setIfInBounds k2 true)
  | _, _, _ => false

theorem stepScr_op {k : Nat} {N : Act → World → Prop} {a : Act} {w : World} (h : ∃ o, ops[k]? = some o ∧ stepScr P C Q ops o N a w) : wpOp P ops Q k (fun a' w' => C w' ∧ N a' w') a w := by
  obtain ⟨o, ho, h⟩ := h
  unfold wpOp
  simp only [ho]
  unfold stepScr at h
  split
  · rename_i hwt; simp only [hwt, if_true] at h; exact .inl h
  · rename_i hwt; simp only [hwt] at h; exact h

theorem wpAnyH_of_scr (hsel : Region.noSelect ops = true) (hQ : ∀ c a d v w, Q (.panic c) (a.put d v) w → Q (.panic c) a w) :
    ∀ (n : Nat) (s : Scr) (listed : Array Bool) (a : Act) (w : World), C w → scrB md ops n s listed = true → wpScr P ops C Q s a w → wpAnyH P md ops Q C n listed a w
  | 0, .nil, listed, a, w, _, hB, h => ⟨by simpa [scrB] using hB, h⟩
  | n + 1, .still k s, listed, a, w, hC, hB, h => by
    simp only [scrB, Bool.and_eq_true] at hB
    obtain ⟨⟨⟨hs, hr⟩, hf⟩, hB'⟩ := hB
    obtain ⟨o, ho, h⟩ := h
    by_cases hw : Region.wanted o (yielded ops a.tmps) = true
    · simp only [hw, if_true] at h
      obtain ⟨v, hv, h2⟩ := h
      exact mix_first ho (Region.noSelect_spec hsel) hQ _ listed a w (Region.free_spec ho hf) (by simpa using hr) (.inl ⟨hw, hv⟩) hC (wpAnyH_of_scr hsel hQ n s _ _ w hC hB' h2)
    · simp only [hw] at h
      exact mix_first ho (Region.noSelect_spec hsel) hQ _ listed a w (Region.free_spec ho hf) (by simpa using hr) (.inr ⟨by simpa using hw, rfl⟩) hC (wpAnyH_of_scr hsel hQ n s _ _ w hC hB' h)
  | n + 1, .one k s, listed, a, w, hC, hB, h => by
    simp only [scrB, Bool.and_eq_true, decide_eq_true_eq] at hB
    obtain ⟨hr, hB'⟩ := hB
    refine ⟨fun h0 => (by rw [hr] at h0; cases h0), fun i hi => ?_⟩
    rw [hr] at hi
    have hik : i = k := by simpa using hi
    subst hik
    exact wpOp_mono (fun a' w' h' => ⟨h'.1, wpAnyH_of_scr hsel hQ n s _ a' w' h'.1 hB' h'.2⟩) (stepScr_op h)
  | n + 1, .two k1 s1 k2 s2, listed, a, w, hC, hB, h => by
    simp only [scrB, Bool.and_eq_true, decide_eq_true_eq] at hB
    obtain ⟨⟨hr, hB1⟩, hB2⟩ := hB
    refine ⟨fun h0 => (by rw [hr] at h0; cases h0), fun i hi => ?_⟩
    rw [hr] at hi
    simp only [List.mem_cons, List.not_mem_nil, or_false] at hi
    rcases hi with rfl | rfl
    · exact wpOp_mono (fun a' w' h' => ⟨h'.1, wpAnyH_of_scr hsel hQ n s1 _ a' w' h'.1 hB1 h'.2⟩) (stepScr_op h.1)
    · exact wpOp_mono (fun a' w' h' => ⟨h'.1, wpAnyH_of_scr hsel hQ n s2 _ a' w' h'.1 hB2 h'.2⟩) (stepScr_op h.2)
  | 0, .still _ _, _, _, _, _, hB, _ => by simp [scrB] at hB
  | 0, .one _ _, _, _, _, _, hB, _ => by simp [scrB] at hB
  | 0, .two _ _ _ _, _, _, _, _, hB, _ => by simp [scrB] at hB
  | _ + 1, .nil, _, _, _, _, hB, _ => by simp [scrB] at hB

/-- **THE LAW** -/
theorem wp_region_scr_at {id : Nat} {a : Act} {w : World} {l : List Oper} (s : Scr) (hm : P.follows .mixedOrders = true)
    (hB : (Region.noSelect l.toArray && scrB .any l.toArray l.length s (Array.replicate l.length false)) = true)
    (hQ : ∀ c a d v w, Q (.panic c) (a.put d v) w → Q (.panic c) a w)
    (h : ∀ W : World, Up w W → W.heap = w.heap → ∃ C : World → Prop, C W ∧ wpScr P l.toArray (fun w' => ∃ x : InC C, w' = x.w) Q s a W) : (Code.region id l.toArray true).wp P Q a w := by
  obtain ⟨C, hC, h2⟩ := h w.drew (Up.refl w).drew rfl
  simp only [Bool.and_eq_true] at hB
  obtain ⟨hsel, hmix⟩ := hB
  have := wpAnyH_of_scr (md := .any) hsel hQ l.length s _ a w.drew ⟨⟨w.drew, hC⟩, rfl⟩ hmix h2
  exact wp_region_any hm (wpAny_of_held (S := fun w' => ∃ x : InC C, w' = x.w) _ _ _ _ (by simpa using this))
end

end Go.Proofs.YtmifpokafaiebaaDoor
