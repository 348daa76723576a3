/- A REGION THAT DRAWS ITS ORDER: still operations, then one forced chain, then still operations again. It names no program. -/
import Derived.Test.YtmifpokafaiebaaDoorMix2
namespace Go.Proofs.YtmifpokafaiebaaDoor
open Go

section
variable {P : Program} {ops : Array Oper} {md : Region.Mode} {C : World → Prop} {Q : Exit → Act → World → Prop}

def wpChainT (P : Program) (ops : Array Oper) (C : World → Prop) (Q : Exit → Act → World → Prop) (F : Act → World → Prop) : List Oper → Act → World → Prop
  | [], a, w => F a w
  | o :: rest, a, w => if Region.wanted o (yielded ops a.tmps) then o.wp P a w (fun a' w' => C w' ∧ wpChainT P ops C Q F rest a' w') Q else C w ∧ wpChainT P ops C Q F rest (a.put o.dst undef) w
theorem wpChainT_nil {F : Act → World → Prop} {a : Act} {w : World} (h : F a w) : wpChainT P ops C Q F [] a w := h
theorem wpChainT_step {F : Act → World → Prop} {a : Act} {w : World} {o : Oper} {rest : List Oper}
    (h : ∀ K : Act → World → Prop, (∀ a' w', C w' → wpChainT P ops C Q F rest a' w' → K a' w') → if Region.wanted o (yielded ops a.tmps) then o.wp P a w K Q else K (a.put o.dst undef) w) : wpChainT P ops C Q F (o :: rest) a w :=
  h _ (fun _ _ h1 h2 => ⟨h1, h2⟩)
theorem wpChainT_want {F : Act → World → Prop} {a : Act} {w : World} {o : Oper} {rest : List Oper} (hw : Region.wanted o (yielded ops a.tmps) = true)
    (h : ∀ K : Act → World → Prop, (∀ a' w', C w' → wpChainT P ops C Q F rest a' w' → K a' w') → o.wp P a w K Q) : wpChainT P ops C Q F (o :: rest) a w :=
  wpChainT_step fun K hK => by rw [if_pos hw]; exact h K hK
theorem wpChainT_nm {F : Act → World → Prop} {l : List Oper} {a : Act} {w0 : World} (h : ∀ W, W = w0 → wpChainT P ops C Q F l a W) : wpChainT P ops C Q F l a w0 := h _ rfl

def Region.seqT (md : Region.Mode) (ops : Array Oper) (h2 : List Nat) : List Nat → Array Bool → Bool
  | [], listed => Region.mixN md ops [] h2 listed
  | k :: ks, listed => (ops[k]?).isSome && decide (Region.ready md ops listed = [k]) && Region.seqT md ops h2 ks (listed.setIfInBounds k true)
def Region.mixT (md : Region.Mode) (ops : Array Oper) (ts h2 : List Nat) : List Nat → Array Bool → Bool
  | [], listed => Region.seqT md ops h2 ts listed
  | k :: ks, listed => (ops[k]?).isSome && (Region.ready md ops listed).contains k && Region.free md ops listed k && Region.mixT md ops ts h2 ks (listed.setIfInBounds k true)

/-- behind the chain: the class, and the still ones -/
def afterT (P : Program) (ops : Array Oper) (C : World → Prop) (Q : Exit → Act → World → Prop) (l : List Oper) (a : Act) (w : World) : Prop :=
  C w ∧ wpStillC P ops C (fun a' => Q .normal a' w) l a

theorem wpAnyH_of_chainT {l : List Oper} {h2 : List Nat} (hsel : Region.noSelect l.toArray = true) (hQ : ∀ c a d v w, Q (.panic c) (a.put d v) w → Q (.panic c) a w) :
    ∀ (ts : List Nat) (listed : Array Bool) (a : Act) (w : World), Region.seqT md l.toArray h2 ts listed = true → wpChainT P l.toArray C Q (afterT P l.toArray C Q (pick l h2)) (pick l ts) a w → wpAnyH P md l.toArray Q C (ts.length + h2.length) listed a w
  | [], listed, a, w, hB, h => by
    have := wpAnyH_of_mix (md := md) (ts := []) hsel hQ h.1 h2 listed a hB h.2
    rw [List.length_nil, Nat.zero_add]
    simpa using this
  | k :: ks, listed, a, w, hB, h => by
    simp only [Region.seqT, Bool.and_eq_true, decide_eq_true_eq] at hB
    obtain ⟨⟨hs, hr⟩, hB'⟩ := hB
    obtain ⟨o, ho⟩ := Option.isSome_iff_exists.1 hs
    have ho' : l[k]? = some o := by simpa using ho
    simp only [pick, ho'] at h
    rw [List.length_cons, show ks.length + 1 + h2.length = (ks.length + h2.length) + 1 by omega]
    refine ⟨fun h0 => (by rw [hr] at h0; cases h0), fun i hi => ?_⟩
    rw [hr] at hi
    have hik : i = k := by simpa using hi
    subst hik
    have hw : wpOp P l.toArray Q i (fun a' w' => C w' ∧ wpChainT P l.toArray C Q (afterT P l.toArray C Q (pick l h2)) (pick l ks) a' w') a w := by
      unfold wpOp
      simp only [ho]
      unfold wpChainT at h
      split
      · rename_i hwt; simp only [hwt, if_true] at h; exact .inl h
      · rename_i hwt; simp only [hwt] at h; exact h
    exact wpOp_mono (fun a' w' h' => ⟨h'.1, wpAnyH_of_chainT hsel hQ ks _ a' w' hB' h'.2⟩) hw

theorem wpAnyH_of_mixT {l : List Oper} {ts h2 : List Nat} {w : World} (hsel : Region.noSelect l.toArray = true) (hQ : ∀ c a d v w, Q (.panic c) (a.put d v) w → Q (.panic c) a w) (hC : C w) :
    ∀ (hs : List Nat) (listed : Array Bool) (a : Act), Region.mixT md l.toArray ts h2 hs listed = true →
    wpStillC P l.toArray C (fun a' => wpChainT P l.toArray C Q (afterT P l.toArray C Q (pick l h2)) (pick l ts) a' w) (pick l hs) a → wpAnyH P md l.toArray Q C (hs.length + (ts.length + h2.length)) listed a w
  | [], listed, a, hB, h => by
    rw [List.length_nil, Nat.zero_add]
    exact wpAnyH_of_chainT hsel hQ ts listed a w hB h
  | k :: ks, listed, a, hB, h => by
    simp only [Region.mixT, Bool.and_eq_true] at hB
    obtain ⟨⟨⟨hs, hr⟩, hf⟩, hB'⟩ := hB
    obtain ⟨o, ho⟩ := Option.isSome_iff_exists.1 hs
    have ho' : l[k]? = some o := by simpa using ho
    simp only [pick, ho'] at h
    rw [List.length_cons, show ks.length + 1 + (ts.length + h2.length) = (ks.length + (ts.length + h2.length)) + 1 by omega]
    unfold wpStillC at h
    by_cases hw : Region.wanted o (yielded l.toArray a.tmps) = true
    · rw [if_pos hw] at h
      obtain ⟨v, hv, h2⟩ := h
      exact mix_first ho (Region.noSelect_spec hsel) hQ _ listed a w (Region.free_spec ho hf) (by simpa using hr) (.inl ⟨hw, hv⟩) hC (wpAnyH_of_mixT hsel hQ hC ks _ _ hB' h2)
    · rw [if_neg hw] at h
      exact mix_first ho (Region.noSelect_spec hsel) hQ _ listed a w (Region.free_spec ho hf) (by simpa using hr) (.inr ⟨by simpa using hw, rfl⟩) hC (wpAnyH_of_mixT hsel hQ hC ks _ _ hB' h)

/-- **THE LAW**: hs: the still ones ahead; ts: the chain; h2: the still ones behind. -/
theorem wp_region_mixT_at {id : Nat} {a : Act} {w : World} {l : List Oper} (hs ts h2 : List Nat) (hm : P.follows .mixedOrders = true)
    (hB : (Region.noSelect l.toArray && decide (hs.length + (ts.length + h2.length) = l.length) && Region.mixT .any l.toArray ts h2 hs (Array.replicate l.length false)) = true)
    (hQ : ∀ c a d v w, Q (.panic c) (a.put d v) w → Q (.panic c) a w)
    (h : ∀ W : World, Up w W → W.heap = w.heap → ∃ C : World → Prop, C W ∧ wpStillC P l.toArray (fun w' => ∃ x : InC C, w' = x.w) (fun a' => wpChainT P l.toArray (fun w' => ∃ x : InC C, w' = x.w) Q (afterT P l.toArray (fun w' => ∃ x : InC C, w' = x.w) Q (pick l h2)) (pick l ts) a' W) (pick l hs) a) : (Code.region id l.toArray true).wp P Q a w := by
  obtain ⟨C, hC, h2'⟩ := h w.drew (Up.refl w).drew rfl
  simp only [Bool.and_eq_true, decide_eq_true_eq] at hB
  obtain ⟨⟨hsel, hlen⟩, hmix⟩ := hB
  have := wpAnyH_of_mixT (md := .any) hsel hQ ⟨⟨w.drew, hC⟩, rfl⟩ hs _ a hmix h2'
  refine wp_region_any hm (wpAny_of_held (S := fun w' => ∃ x : InC C, w' = x.w) _ _ _ _ ?_)
  rw [hlen] at this
  simpa using this
end

end Go.Proofs.YtmifpokafaiebaaDoor
