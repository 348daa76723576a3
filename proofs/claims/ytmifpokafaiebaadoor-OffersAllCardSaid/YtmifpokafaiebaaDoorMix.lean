/- A REGION THAT DRAWS ITS ORDER: some operations that leave the world alone (loads, arithmetic, calls that only compute), in every world of a class; the others stand in one forced order, and keep the class. It names no program. -/
import Derived.OrdersHeld
import Derived.Test.YtmifpokafaiebaaDoorQT
namespace Go.Proofs.YtmifpokafaiebaaDoor
open Go

section
variable {P : Program} {ops : Array Oper} {md : Region.Mode} {C : World → Prop} {Q : Exit → Act → World → Prop}

/-- in every world of the class the operation yields v and leaves the very world -/
def YieldsS (P : Program) (ops : Array Oper) (C : World → Prop) (o : Oper) (v : Value) (a : Act) : Prop :=
  (Region.wanted o (yielded ops a.tmps) = true ∧ ∀ w, C w → o.quietAt P a (fun w'' => w'' = w) w v) ∨
  (Region.wanted o (yielded ops a.tmps) = false ∧ v = undef)

theorem YieldsS.wpOp {i : Nat} {o : Oper} {v : Value} {a : Act} (hi : ops[i]? = some o) (hy : YieldsS P ops C o v a) {K : Act → World → Prop} {w : World} (hC : C w) (h : K (a.put o.dst v) w) : wpOp P ops Q i K a w := by
  unfold Go.wpOp
  simp only [hi]
  rcases hy with ⟨hw, hv⟩ | ⟨hw, rfl⟩
  · simp only [hw, if_true]
    exact .inl (Oper.wp_of_quiet (C := fun w'' => w'' = w) (K := fun a' => a' = a.put o.dst v) rfl (fun a' w' hw' ha' => by rw [hw', ha']; exact h) ⟨v, fun w0 hw0 => (by rw [hw0]; exact hv w hC), rfl⟩)
  · simp only [hw, Bool.false_eq_true, if_false]; exact h

theorem YieldsS.of_same {o : Oper} {v : Value} {a a' : Act} (hy : YieldsS P ops C o v a) (he : execOp a'.eval o = execOp a.eval o)
    (hw : Region.wanted o (yielded ops a'.tmps) = Region.wanted o (yielded ops a.tmps)) : YieldsS P ops C o v a' := by
  unfold YieldsS Oper.quietAt at *
  rw [he, hw]
  exact hy

theorem wpOp_putS {j : Nat} {oi oj : Oper} {v : Value} (hj : ops[j]? = some oj) (hap : oi.apart ops oj = true)
    (hsi : ∀ cs b, oi.op ≠ .select cs b) (hsj : ∀ cs b, oj.op ≠ .select cs b)
    (hQ : ∀ c a d v w, Q (.panic c) (a.put d v) w → Q (.panic c) a w) {K : Act → World → Prop} {a : Act} {w : World}
    (hy : YieldsS P ops C oi v a) (h : wpOp P ops Q j K (a.put oi.dst v) w) :
    wpOp P ops Q j (fun a' w' => YieldsS P ops C oi v a' ∧ K (a'.put oi.dst v) w') a w := by
  obtain ⟨h1, h2, h3⟩ := Oper.apart_spec hap
  have keep : ∀ (a : Act), YieldsS P ops C oi v a → ∀ u, YieldsS P ops C oi v (a.put oj.dst u) := fun a hy u =>
    hy.of_same (execOp_put oi hsi a oj.dst u h3) (wanted_put oi a oj.dst u h3)
  have keepD : ∀ d, YieldsS P ops C oi v { a with defers := d :: a.defers } := fun d => hy.of_same rfl rfl
  unfold wpOp at *
  simp only [hj] at *
  rw [wanted_put oj a oi.dst v h1] at h
  split
  · rename_i hw
    simp only [hw, if_true] at h
    rcases h with h | ⟨hasks, hlets⟩
    case inr => exact .inr ⟨by unfold Oper.asks at *; rw [execOp_put oj hsj a oi.dst v h1] at hasks; exact hasks, hlets⟩
    refine .inl ?_
    unfold Oper.wp at *
    rw [execOp_put oj hsj a oi.dst v h1] at h
    generalize (execOp a.eval oj).run P w = r at *
    cases r with
    | ok n w' =>
      cases n <;> simp only [Oper.upon] at h ⊢
      case value u => exact ⟨keep a hy u, by rw [← Act.put_comm a v u h2]; exact h⟩
      case skip => exact ⟨keep a hy _, by rw [← Act.put_comm a v undef h2]; exact h⟩
      case defer d =>
        refine ⟨keep _ (keepD d) _, ?_⟩
        rw [← Act.put_comm _ v undef h2, ← Act.put_defers]
        exact h
      case enter f args =>
        refine Calls.mono h fun e w'' he => ?_
        cases e with
        | returned u => exact ⟨keep a hy u, by rw [← Act.put_comm a v u h2]; exact he⟩
        | panicked c => exact hQ _ _ _ _ _ he
        | outgrown => exact he
      case row row args => exact Rows.mono h fun u w'' he => ⟨keep a hy u, by rw [← Act.put_comm a v u h2]; exact he⟩
    | halt x w' =>
      cases x <;> simp only [Oper.upon] at h ⊢
      case panic u => exact hQ _ _ _ _ _ h
  · rename_i hw
    simp only [hw] at h
    exact ⟨keep a hy _, by rw [← Act.put_comm a v undef h2]; exact h⟩

theorem mix_first {i : Nat} {oi : Oper} {v : Value} (hi : ops[i]? = some oi) (hsel : ∀ (j : Nat) (o : Oper) cs b, ops[j]? = some o → o.op ≠ .select cs b)
    (hQ : ∀ c a d v w, Q (.panic c) (a.put d v) w → Q (.panic c) a w) :
    ∀ (fuel : Nat) (listed : Array Bool) (a : Act) (w : World),
      (∀ j oj, ops[j]? = some oj → j ≠ i → listed.getD j true = false → (∀ e ∈ oj.after, Region.binds md e = true → e.on ≠ i) → oi.apart ops oj = true) →
      i ∈ Region.ready md ops listed → YieldsS P ops C oi v a → C w →
      wpAnyH P md ops Q C fuel (listed.setIfInBounds i true) (a.put oi.dst v) w → wpAnyH P md ops Q C (fuel + 1) listed a w
  | 0, listed, a, w, _, hr, hy, hS, H => by
    refine ⟨fun h => (by rw [h] at hr; cases hr), fun j hj => ?_⟩
    by_cases hji : j = i
    · subst hji; exact hy.wpOp hi hS ⟨hS, H⟩
    · have := ready_mono hj hji
      rw [H.1] at this
      cases this
  | fuel + 1, listed, a, w, hfree, hr, hy, hS, H => by
    refine ⟨fun h => (by rw [h] at hr; cases hr), fun j hj => ?_⟩
    by_cases hji : j = i
    · subst hji; exact hy.wpOp hi hS ⟨hS, H⟩
    · have h1 := H.2 j (ready_mono hj hji)
      obtain ⟨hjun, oj, hoj, hall⟩ := mem_ready.1 hj
      have hnot : ∀ e ∈ oj.after, Region.binds md e = true → e.on ≠ i := fun e he hb heq => by
        have h1 := hall e he hb
        have h0 := (mem_ready.1 hr).1
        rw [heq] at h1
        rcases Nat.lt_or_ge i listed.size with h' | h'
        · simp [h'] at h0 h1; rw [h0] at h1; cases h1
        · simp [Array.getElem?_eq_none h'] at h1
      have h2 := wpOp_putS hoj (hfree j oj hoj hji hjun hnot) (fun cs b => hsel i oi cs b hi) (fun cs b => hsel j oj cs b hoj) hQ hy h1
      have hfree' : ∀ k ok, ops[k]? = some ok → k ≠ i → (listed.setIfInBounds j true).getD k true = false →
          (∀ e ∈ ok.after, Region.binds md e = true → e.on ≠ i) → oi.apart ops ok = true := fun k ok hk hki hun hno => by
        refine hfree k ok hk hki ?_ hno
        by_cases hjk : j = k
        · subst hjk; exact hjun
        · rw [getD_set_ne true hjk] at hun; exact hun
      refine wpOp_mono (fun a' w' h3 => ⟨h3.2.1, mix_first hi hsel hQ fuel (listed.setIfInBounds j true) a' w' hfree' (ready_mono hr (Ne.symm hji)) h3.1 h3.2.1 ?_⟩) h2
      rw [Array.setIfInBounds_comm _ _ hji]
      exact h3.2.2

/-- the operations of these numbers -/
def pick (l : List Oper) : List Nat → List Oper
  | [] => []
  | i :: is => match l[i]? with
    | some o => o :: pick l is
    | none => pick l is

/-- THE STILL ONES, in this order -/
def wpStillC (P : Program) (ops : Array Oper) (C : World → Prop) (Q : Act → Prop) : List Oper → Act → Prop
  | [], a => Q a
  | o :: rest, a => if Region.wanted o (yielded ops a.tmps) then (∃ v, (∀ w, C w → o.quietAt P a (fun w'' => w'' = w) w v) ∧ wpStillC P ops C Q rest (a.put o.dst v)) else wpStillC P ops C Q rest (a.put o.dst undef)
theorem wpStillC_nil {Q : Act → Prop} {a : Act} (h : Q a) : wpStillC P ops C Q [] a := h
theorem wpStillC_step {Q : Act → Prop} {a : Act} {o : Oper} {rest : List Oper}
    (h : ∀ K : Act → Prop, (∀ a, wpStillC P ops C Q rest a → K a) → if Region.wanted o (yielded ops a.tmps) then (∃ v, (∀ w, C w → o.quietAt P a (fun w'' => w'' = w) w v) ∧ K (a.put o.dst v)) else K (a.put o.dst undef)) : wpStillC P ops C Q (o :: rest) a :=
  h _ (fun _ h => h)

/-- THE CHAIN: behind each operation the class is to be shown -/
def wpChain (P : Program) (ops : Array Oper) (C : World → Prop) (Q : Exit → Act → World → Prop) : List Oper → Act → World → Prop
  | [], a, w => Q .normal a w
  | o :: rest, a, w => if Region.wanted o (yielded ops a.tmps) then o.wp P a w (fun a' w' => C w' ∧ wpChain P ops C Q rest a' w') Q else C w ∧ wpChain P ops C Q rest (a.put o.dst undef) w
theorem wpChain_nil {a : Act} {w : World} (h : Q .normal a w) : wpChain P ops C Q [] a w := h
theorem wpChain_step {a : Act} {w : World} {o : Oper} {rest : List Oper}
    (h : ∀ K : Act → World → Prop, (∀ a' w', C w' → wpChain P ops C Q rest a' w' → K a' w') → if Region.wanted o (yielded ops a.tmps) then o.wp P a w K Q else K (a.put o.dst undef) w) : wpChain P ops C Q (o :: rest) a w :=
  h _ (fun _ _ h1 h2 => ⟨h1, h2⟩)

def Region.seqN (md : Region.Mode) (ops : Array Oper) : List Nat → Array Bool → Bool
  | [], listed => (Region.ready md ops listed).isEmpty
  | k :: ks, listed => (ops[k]?).isSome && decide (Region.ready md ops listed = [k]) && Region.seqN md ops ks (listed.setIfInBounds k true)
def Region.mixN (md : Region.Mode) (ops : Array Oper) (ts : List Nat) : List Nat → Array Bool → Bool
  | [], listed => Region.seqN md ops ts listed
  | k :: ks, listed => (ops[k]?).isSome && (Region.ready md ops listed).contains k && Region.free md ops listed k && Region.mixN md ops ts ks (listed.setIfInBounds k true)

theorem wpAnyH_of_chain {l : List Oper} : ∀ (ts : List Nat) (listed : Array Bool) (a : Act) (w : World), Region.seqN md l.toArray ts listed = true → wpChain P l.toArray C Q (pick l ts) a w → wpAnyH P md l.toArray Q C ts.length listed a w
  | [], listed, a, w, hB, h => ⟨by simpa [Region.seqN] using hB, h⟩
  | k :: ks, listed, a, w, hB, h => by
    simp only [Region.seqN, Bool.and_eq_true, decide_eq_true_eq] at hB
    obtain ⟨⟨hs, hr⟩, hB'⟩ := hB
    obtain ⟨o, ho⟩ := Option.isSome_iff_exists.1 hs
    have ho' : l[k]? = some o := by simpa using ho
    simp only [pick, ho'] at h
    refine ⟨fun h0 => (by rw [hr] at h0; cases h0), fun i hi => ?_⟩
    rw [hr] at hi
    have hik : i = k := by simpa using hi
    subst hik
    have hw : wpOp P l.toArray Q i (fun a' w' => C w' ∧ wpChain P l.toArray C Q (pick l ks) a' w') a w := by
      unfold wpOp
      simp only [ho]
      unfold wpChain at h
      split
      · rename_i hwt; simp only [hwt, if_true] at h; exact .inl h
      · rename_i hwt; simp only [hwt] at h; exact h
    exact wpOp_mono (fun a' w' h' => ⟨h'.1, wpAnyH_of_chain ks _ a' w' hB' h'.2⟩) hw

theorem wpAnyH_of_mix {l : List Oper} {ts : List Nat} {w : World} (hsel : Region.noSelect l.toArray = true) (hQ : ∀ c a d v w, Q (.panic c) (a.put d v) w → Q (.panic c) a w) (hC : C w) :
    ∀ (hs : List Nat) (listed : Array Bool) (a : Act), Region.mixN md l.toArray ts hs listed = true →
    wpStillC P l.toArray C (fun a' => wpChain P l.toArray C Q (pick l ts) a' w) (pick l hs) a → wpAnyH P md l.toArray Q C (hs.length + ts.length) listed a w
  | [], listed, a, hB, h => by
    rw [List.length_nil, Nat.zero_add]
    exact wpAnyH_of_chain ts listed a w hB h
  | k :: ks, listed, a, hB, h => by
    simp only [Region.mixN, Bool.and_eq_true] at hB
    obtain ⟨⟨⟨hs, hr⟩, hf⟩, hB'⟩ := hB
    obtain ⟨o, ho⟩ := Option.isSome_iff_exists.1 hs
    have ho' : l[k]? = some o := by simpa using ho
    simp only [pick, ho'] at h
    rw [List.length_cons, show ks.length + 1 + ts.length = (ks.length + ts.length) + 1 by omega]
    unfold wpStillC at h
    by_cases hw : Region.wanted o (yielded l.toArray a.tmps) = true
    · rw [if_pos hw] at h
      obtain ⟨v, hv, h2⟩ := h
      exact mix_first ho (Region.noSelect_spec hsel) hQ _ listed a w (Region.free_spec ho hf) (by simpa using hr) (.inl ⟨hw, hv⟩) hC (wpAnyH_of_mix hsel hQ hC ks _ _ hB' h2)
    · rw [if_neg hw] at h
      exact mix_first ho (Region.noSelect_spec hsel) hQ _ listed a w (Region.free_spec ho hf) (by simpa using hr) (.inr ⟨by simpa using hw, rfl⟩) hC (wpAnyH_of_mix hsel hQ hC ks _ _ hB' h)

/-- **THE LAW**: hs: the numbers of the still ones; ts: those of the chain. -/
theorem wp_region_mix {id : Nat} {a : Act} {w : World} {l : List Oper} (hs ts : List Nat) (C : World → Prop) (hm : P.follows .mixedOrders = true)
    (hB : (Region.noSelect l.toArray && decide (hs.length + ts.length = l.length) && Region.mixN .any l.toArray ts hs (Array.replicate l.length false)) = true)
    (hQ : ∀ c a d v w, Q (.panic c) (a.put d v) w → Q (.panic c) a w) (hC : C w.drew)
    (h : wpStillC P l.toArray C (fun a' => wpChain P l.toArray C Q (pick l ts) a' w.drew) (pick l hs) a) : (Code.region id l.toArray true).wp P Q a w := by
  simp only [Bool.and_eq_true, decide_eq_true_eq] at hB
  obtain ⟨⟨hsel, hlen⟩, hmix⟩ := hB
  have := wpAnyH_of_mix (md := .any) hsel hQ hC hs _ a hmix h
  refine wp_region_any hm (wpAny_of_held (S := C) _ _ _ _ ?_)
  rw [hlen] at this
  simpa using this

/-- a world of a class -/
structure InC (C : World → Prop) where
  w : World
  h : C w
theorem inC {C : World → Prop} {w : World} (h : C w) : ∃ x : InC C, w = x.w := ⟨⟨w, h⟩, rfl⟩
theorem InC.some_ {C : World → Prop} {w : World} (h : C w) : Nonempty (InC C) := ⟨⟨w, h⟩⟩

/-- the same, the world behind the draw under a name, the class chosen then -/
theorem wp_region_mix_at {id : Nat} {a : Act} {w : World} {l : List Oper} (hs ts : List Nat) (hm : P.follows .mixedOrders = true)
    (hB : (Region.noSelect l.toArray && decide (hs.length + ts.length = l.length) && Region.mixN .any l.toArray ts hs (Array.replicate l.length false)) = true)
    (hQ : ∀ c a d v w, Q (.panic c) (a.put d v) w → Q (.panic c) a w)
    (h : ∀ W : World, Up w W → W.heap = w.heap → ∃ C : World → Prop, C W ∧ wpStillC P l.toArray (fun w' => ∃ x : InC C, w' = x.w) (fun a' => wpChain P l.toArray (fun w' => ∃ x : InC C, w' = x.w) Q (pick l ts) a' W) (pick l hs) a) : (Code.region id l.toArray true).wp P Q a w := by
  obtain ⟨C, hC, h2⟩ := h w.drew (Up.refl w).drew rfl
  exact wp_region_mix hs ts _ hm hB hQ ⟨⟨w.drew, hC⟩, rfl⟩ h2

theorem wpChain_want {a : Act} {w : World} {o : Oper} {rest : List Oper} (hw : Region.wanted o (yielded ops a.tmps) = true)
    (h : ∀ K : Act → World → Prop, (∀ a' w', C w' → wpChain P ops C Q rest a' w' → K a' w') → o.wp P a w K Q) : wpChain P ops C Q (o :: rest) a w :=
  wpChain_step fun K hK => by rw [if_pos hw]; exact h K hK
end

end Go.Proofs.YtmifpokafaiebaaDoor
