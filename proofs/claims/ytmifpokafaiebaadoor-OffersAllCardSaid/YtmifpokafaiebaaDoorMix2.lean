/- A REGION THAT DRAWS ITS ORDER, with a fork: behind the still operations two memory-making ones may come first; behind either the rest is forced. It names no program. -/
import Derived.Test.YtmifpokafaiebaaDoorMix
namespace Go.Proofs.YtmifpokafaiebaaDoor
open Go

section
variable {P : Program} {ops : Array Oper} {md : Region.Mode} {C : World → Prop} {Q : Exit → Act → World → Prop}

def Region.forkN (md : Region.Mode) (ops : Array Oper) : List Nat → List Nat → Array Bool → Bool
  | i :: r1, j :: r2, listed => (ops[i]?).isSome && (ops[j]?).isSome && decide (Region.ready md ops listed = [i, j]) && decide (r1.length = r2.length) && Region.seqN md ops r1 (listed.setIfInBounds i true) && Region.seqN md ops r2 (listed.setIfInBounds j true)
  | _, _, _ => false
def Region.mix2N (md : Region.Mode) (ops : Array Oper) (t1 t2 : List Nat) : List Nat → Array Bool → Bool
  | [], listed => Region.forkN md ops t1 t2 listed
  | k :: ks, listed => (ops[k]?).isSome && (Region.ready md ops listed).contains k && Region.free md ops listed k && Region.mix2N md ops t1 t2 ks (listed.setIfInBounds k true)

theorem wpOp_of_chain {l : List Oper} {k : Nat} {ks : List Nat} {listed : Array Bool} {a : Act} {w : World} (hs : (l.toArray[k]?).isSome = true) (hB' : Region.seqN md l.toArray ks (listed.setIfInBounds k true) = true) (h : wpChain P l.toArray C Q (pick l (k :: ks)) a w) :
    wpOp P l.toArray Q k (fun a' w' => C w' ∧ wpAnyH P md l.toArray Q C ks.length (listed.setIfInBounds k true) a' w') a w := by
  obtain ⟨o, ho⟩ := Option.isSome_iff_exists.1 hs
  have ho' : l[k]? = some o := by simpa using ho
  simp only [pick, ho'] at h
  have hw : wpOp P l.toArray Q k (fun a' w' => C w' ∧ wpChain P l.toArray C Q (pick l ks) a' w') a w := by
    unfold wpOp
    simp only [ho]
    unfold wpChain at h
    split
    · rename_i hwt; simp only [hwt, if_true] at h; exact .inl h
    · rename_i hwt; simp only [hwt] at h; exact h
  exact wpOp_mono (fun a' w' h' => ⟨h'.1, wpAnyH_of_chain ks _ a' w' hB' h'.2⟩) hw

theorem wpAnyH_of_fork {l : List Oper} (t1 t2 : List Nat) (listed : Array Bool) (a : Act) (w : World) (hB : Region.forkN md l.toArray t1 t2 listed = true) (h1 : wpChain P l.toArray C Q (pick l t1) a w) (h2 : wpChain P l.toArray C Q (pick l t2) a w) : wpAnyH P md l.toArray Q C t1.length listed a w := by
  match t1, t2, hB with
  | i :: r1, j :: r2, hB =>
    simp only [Region.forkN, Bool.and_eq_true, decide_eq_true_eq] at hB
    obtain ⟨⟨⟨⟨⟨hi, hj⟩, hr⟩, hl⟩, hb1⟩, hb2⟩ := hB
    refine ⟨fun h0 => (by rw [hr] at h0; cases h0), fun k hk => ?_⟩
    rw [hr] at hk
    rcases List.mem_cons.1 hk with rfl | hk
    · exact wpOp_of_chain hi hb1 h1
    · obtain rfl := List.mem_singleton.1 hk
      have := wpOp_of_chain (md := md) hj hb2 h2
      rw [← hl] at this
      exact this

theorem wpAnyH_of_mix2 {l : List Oper} {t1 t2 : List Nat} {w : World} (hsel : Region.noSelect l.toArray = true) (hQ : ∀ c a d v w, Q (.panic c) (a.put d v) w → Q (.panic c) a w) (hC : C w) :
    ∀ (hs : List Nat) (listed : Array Bool) (a : Act), Region.mix2N md l.toArray t1 t2 hs listed = true →
    wpStillC P l.toArray C (fun a' => wpChain P l.toArray C Q (pick l t1) a' w ∧ wpChain P l.toArray C Q (pick l t2) a' w) (pick l hs) a → wpAnyH P md l.toArray Q C (hs.length + t1.length) listed a w
  | [], listed, a, hB, h => by
    rw [List.length_nil, Nat.zero_add]
    exact wpAnyH_of_fork t1 t2 listed a w hB h.1 h.2
  | k :: ks, listed, a, hB, h => by
    simp only [Region.mix2N, Bool.and_eq_true] at hB
    obtain ⟨⟨⟨hs, hr⟩, hf⟩, hB'⟩ := hB
    obtain ⟨o, ho⟩ := Option.isSome_iff_exists.1 hs
    have ho' : l[k]? = some o := by simpa using ho
    simp only [pick, ho'] at h
    rw [List.length_cons, show ks.length + 1 + t1.length = (ks.length + t1.length) + 1 by omega]
    unfold wpStillC at h
    by_cases hw : Region.wanted o (yielded l.toArray a.tmps) = true
    · rw [if_pos hw] at h
      obtain ⟨v, hv, h2⟩ := h
      exact mix_first ho (Region.noSelect_spec hsel) hQ _ listed a w (Region.free_spec ho hf) (by simpa using hr) (.inl ⟨hw, hv⟩) hC (wpAnyH_of_mix2 hsel hQ hC ks _ _ hB' h2)
    · rw [if_neg hw] at h
      exact mix_first ho (Region.noSelect_spec hsel) hQ _ listed a w (Region.free_spec ho hf) (by simpa using hr) (.inr ⟨by simpa using hw, rfl⟩) hC (wpAnyH_of_mix2 hsel hQ hC ks _ _ hB' h)

/-- **THE LAW**: hs: the numbers of the still ones; t1, t2: the two orders of the rest. -/
theorem wp_region_fork_at {id : Nat} {a : Act} {w : World} {l : List Oper} (hs t1 t2 : List Nat) (hm : P.follows .mixedOrders = true)
    (hB : (Region.noSelect l.toArray && decide (hs.length + t1.length = l.length) && Region.mix2N .any l.toArray t1 t2 hs (Array.replicate l.length false)) = true)
    (hQ : ∀ c a d v w, Q (.panic c) (a.put d v) w → Q (.panic c) a w)
    (h : ∀ W : World, Up w W → W.heap = w.heap → ∃ C : World → Prop, C W ∧ wpStillC P l.toArray (fun w' => ∃ x : InC C, w' = x.w) (fun a' => wpChain P l.toArray (fun w' => ∃ x : InC C, w' = x.w) Q (pick l t1) a' W ∧ wpChain P l.toArray (fun w' => ∃ x : InC C, w' = x.w) Q (pick l t2) a' W) (pick l hs) a) : (Code.region id l.toArray true).wp P Q a w := by
  obtain ⟨C, hC, h2⟩ := h w.drew (Up.refl w).drew rfl
  simp only [Bool.and_eq_true, decide_eq_true_eq] at hB
  obtain ⟨⟨hsel, hlen⟩, hmix⟩ := hB
  have := wpAnyH_of_mix2 (md := .any) hsel hQ ⟨⟨w.drew, hC⟩, rfl⟩ hs _ a hmix h2
  refine wp_region_any hm (wpAny_of_held (S := fun w' => ∃ x : InC C, w' = x.w) _ _ _ _ ?_)
  rw [hlen] at this
  simpa using this
end

end Go.Proofs.YtmifpokafaiebaaDoor
