/- A REGION THAT DRAWS ITS ORDER, INSIDE A FENCE THAT BARS NOTHING: still operations in every world of a class; the others in one forced order, and keep the class. It names no program. -/
import Derived.Test.YtobcfhninchnkaaDoorMix2
import Derived.Test.YtobcfhninchnkaaDoorQIn
import Derived.Test.YtobcfhninchnkaaDoorArr
namespace Go.Proofs.YtobcfhninchnkaaDoor
open Go
set_option linter.unusedVariables false

section
variable {F : Fence} {n : Nat} {P : Program} {ops : Array Oper} {md : Region.Mode} {C : World → Prop} {Q : Exit → Act → World → Prop}

theorem YieldsS.wpOpIn (hF : WideF F) {i : Nat} {o : Oper} {v : Value} {a : Act} (hi : ops[i]? = some o) (hd : ∀ c, o.op ≠ .defer c) (hy : YieldsS P ops C o v a) {K : Act → World → Prop} {w : World} (hC : C w) (h : K (a.put o.dst v) w) : wpOpIn F n P ops Q i K a w := by
  unfold Go.wpOpIn
  simp only [hi]
  rcases hy with ⟨hw, hv⟩ | ⟨hw, rfl⟩
  · simp only [hw, if_true]
    exact Oper.wpIn_of_quiet hF hd (C := fun w'' => w'' = w) (K := fun a' => a' = a.put o.dst v) rfl (fun a' w' hw' ha' => by rw [hw', ha']; exact h) ⟨v, fun w0 hw0 => (by rw [hw0]; exact hv w hC), rfl⟩
  · simp only [hw, Bool.false_eq_true, if_false]; exact ⟨fun f _ => hF.fn f, h⟩

theorem wpOpIn_putS (hF : WideF F) {j : Nat} {oi oj : Oper} {v : Value} (hj : ops[j]? = some oj) (hdj : ∀ c, oj.op ≠ .defer c) (hap : oi.apart ops oj = true)
    (hsi : ∀ cs b, oi.op ≠ .select cs b) (hsj : ∀ cs b, oj.op ≠ .select cs b)
    (hQ : ∀ c a d v w, Q (.panic c) (a.put d v) w → Q (.panic c) a w) {K : Act → World → Prop} {a : Act} {w : World}
    (hy : YieldsS P ops C oi v a) (h : wpOpIn F n P ops Q j K (a.put oi.dst v) w) :
    wpOpIn F n P ops Q j (fun a' w' => YieldsS P ops C oi v a' ∧ K (a'.put oi.dst v) w') a w := by
  obtain ⟨h1, h2, h3⟩ := Oper.apart_spec hap
  have keep : ∀ (a : Act), YieldsS P ops C oi v a → ∀ u, YieldsS P ops C oi v (a.put oj.dst u) := fun a hy u =>
    hy.of_same (execOp_put oi hsi a oj.dst u h3) (wanted_put oi a oj.dst u h3)
  have keepD : ∀ d, YieldsS P ops C oi v { a with defers := d :: a.defers } := fun d => hy.of_same rfl rfl
  unfold Go.wpOpIn at *
  simp only [hj] at *
  rw [wanted_put oj a oi.dst v h1] at h
  split
  · rename_i hw
    simp only [hw, if_true] at h
    unfold Oper.wpIn at *
    refine ⟨fun f _ => hF.fn f, ?_⟩
    have h := h.2
    rw [Oper.semAt_eq F.round _ oj hdj, execOp_put oj hsj a oi.dst v h1] at h
    rw [Oper.semAt_eq F.round _ oj hdj]
    generalize (execOp a.eval oj).run P w = r at *
    cases r with
    | ok x w' =>
      cases x <;> simp only [Oper.uponIn] at h ⊢
      case value u => exact ⟨keep a hy u, by rw [← Act.put_comm a v u h2]; exact h⟩
      case skip => exact ⟨keep a hy _, by rw [← Act.put_comm a v undef h2]; exact h⟩
      case defer d =>
        refine ⟨keep _ (keepD d) _, ?_⟩
        rw [← Act.put_comm _ v undef h2, ← Act.put_defers]
        exact h
      case enter f args =>
        refine ⟨h.1, CallsIn.mono h.2 fun e w'' he => ?_⟩
        cases e with
        | returned u => exact ⟨keep a hy u, by rw [← Act.put_comm a v u h2]; exact he⟩
        | panicked c => exact hQ _ _ _ _ _ he
        | outgrown => exact he
      case row row args => exact ⟨h.1, RowsIn.mono h.2 fun u w'' he => ⟨keep a hy u, by rw [← Act.put_comm a v u h2]; exact he⟩⟩
      case round l f tmps assign body =>
        refine ⟨h.1, RoundIn.mono h.2 fun e w'' he => ?_⟩
        cases e with
        | returned u => exact ⟨keep a hy u, by rw [← Act.put_comm a v u h2]; exact he⟩
        | panicked c => exact hQ _ _ _ _ _ he
        | outgrown => exact he
    | halt x w' =>
      cases x <;> simp only [Oper.uponIn] at h ⊢
      case panic u => exact hQ _ _ _ _ _ h
  · rename_i hw
    simp only [hw] at h
    exact ⟨fun f _ => hF.fn f, keep a hy _, by rw [← Act.put_comm a v undef h2]; exact h.2⟩

def wpAnyHIn (F : Fence) (n : Nat) (P : Program) (md : Region.Mode) (ops : Array Oper) (Q : Exit → Act → World → Prop) (S : World → Prop) : Nat → Array Bool → Act → World → Prop
  | 0, listed, a, w => Region.ready md ops listed = [] ∧ Q .normal a w
  | fuel + 1, listed, a, w =>
    (Region.ready md ops listed = [] → Q .normal a w) ∧
    ∀ i ∈ Region.ready md ops listed, wpOpIn F n P ops Q i (fun a' w' => S w' ∧ wpAnyHIn F n P md ops Q S fuel (listed.setIfInBounds i true) a' w') a w
theorem wpAnyIn_of_held : ∀ (fuel : Nat) (listed : Array Bool) (a : Act) (w : World), wpAnyHIn F n P md ops Q C fuel listed a w → wpAnyIn F n P md ops Q fuel listed a w
  | 0, _, _, _, h => h
  | fuel + 1, listed, a, w, h => ⟨h.1, fun i hi => wpOpIn_mono (fun a' w' h' => wpAnyIn_of_held fuel _ a' w' h'.2) (h.2 i hi)⟩

theorem mix_firstIn (hF : WideF F) (hnd : Region.noDefer ops = true) {i : Nat} {oi : Oper} {v : Value} (hi : ops[i]? = some oi) (hsel : ∀ (j : Nat) (o : Oper) cs b, ops[j]? = some o → o.op ≠ .select cs b)
    (hQ : ∀ c a d v w, Q (.panic c) (a.put d v) w → Q (.panic c) a w) :
    ∀ (fuel : Nat) (listed : Array Bool) (a : Act) (w : World),
      (∀ j oj, ops[j]? = some oj → j ≠ i → listed.getD j true = false → (∀ e ∈ oj.after, Region.binds md e = true → e.on ≠ i) → oi.apart ops oj = true) →
      i ∈ Region.ready md ops listed → YieldsS P ops C oi v a → C w →
      wpAnyHIn F n P md ops Q C fuel (listed.setIfInBounds i true) (a.put oi.dst v) w → wpAnyHIn F n P md ops Q C (fuel + 1) listed a w
  | 0, listed, a, w, _, hr, hy, hS, H => by
    refine ⟨fun h => (by rw [h] at hr; cases hr), fun j hj => ?_⟩
    by_cases hji : j = i
    · subst hji; exact hy.wpOpIn hF hi (Region.noDefer_spec hnd hi) hS ⟨hS, H⟩
    · have := ready_mono hj hji
      rw [H.1] at this
      cases this
  | fuel + 1, listed, a, w, hfree, hr, hy, hS, H => by
    refine ⟨fun h => (by rw [h] at hr; cases hr), fun j hj => ?_⟩
    by_cases hji : j = i
    · subst hji; exact hy.wpOpIn hF hi (Region.noDefer_spec hnd hi) hS ⟨hS, H⟩
    · have h1 := H.2 j (ready_mono hj hji)
      obtain ⟨hjun, oj, hoj, hall⟩ := mem_ready.1 hj
      have hnot : ∀ e ∈ oj.after, Region.binds md e = true → e.on ≠ i := fun e he hb heq => by
        have h1 := hall e he hb
        have h0 := (mem_ready.1 hr).1
        rw [heq] at h1
        rcases Nat.lt_or_ge i listed.size with h' | h'
        · simp [h'] at h0 h1; rw [h0] at h1; cases h1
        · simp [Array.getElem?_eq_none h'] at h1
      have h2 := wpOpIn_putS hF hoj (Region.noDefer_spec hnd hoj) (hfree j oj hoj hji hjun hnot) (fun cs b => hsel i oi cs b hi) (fun cs b => hsel j oj cs b hoj) hQ hy h1
      have hfree' : ∀ k ok, ops[k]? = some ok → k ≠ i → (listed.setIfInBounds j true).getD k true = false →
          (∀ e ∈ ok.after, Region.binds md e = true → e.on ≠ i) → oi.apart ops ok = true := fun k ok hk hki hun hno => by
        refine hfree k ok hk hki ?_ hno
        by_cases hjk : j = k
        · subst hjk; exact hjun
        · rw [getD_set_ne true hjk] at hun; exact hun
      refine wpOpIn_mono (fun a' w' h3 => ⟨h3.2.1, mix_firstIn hF hnd hi hsel hQ fuel (listed.setIfInBounds j true) a' w' hfree' (ready_mono hr (Ne.symm hji)) h3.1 h3.2.1 ?_⟩) h2
      rw [Array.setIfInBounds_comm _ _ hji]
      exact h3.2.2

def wpChainIn (F : Fence) (n : Nat) (P : Program) (ops : Array Oper) (C : World → Prop) (Q : Exit → Act → World → Prop) : List Oper → Act → World → Prop
  | [], a, w => Q .normal a w
  | o :: rest, a, w => if Region.wanted o (yielded ops a.tmps) then o.wpIn F n P a w (fun a' w' => C w' ∧ wpChainIn F n P ops C Q rest a' w') Q else C w ∧ wpChainIn F n P ops C Q rest (a.put o.dst undef) w
theorem wpChainIn_nil {a : Act} {w : World} (h : Q .normal a w) : wpChainIn F n P ops C Q [] a w := h
theorem wpChainIn_want {a : Act} {w : World} {o : Oper} {rest : List Oper} (hw : Region.wanted o (yielded ops a.tmps) = true)
    (h : ∀ K : Act → World → Prop, (∀ a' w', C w' → wpChainIn F n P ops C Q rest a' w' → K a' w') → o.wpIn F n P a w K Q) : wpChainIn F n P ops C Q (o :: rest) a w := by
  unfold wpChainIn
  rw [if_pos hw]
  exact h _ (fun _ _ h1 h2 => ⟨h1, h2⟩)
theorem wpChainIn_nm {l : List Oper} {a : Act} {w0 : World} (h : ∀ W, W = w0 → wpChainIn F n P ops C Q l a W) : wpChainIn F n P ops C Q l a w0 := h _ rfl

theorem wpAnyHIn_of_chain (hF : WideF F) {l : List Oper} : ∀ (ts : List Nat) (listed : Array Bool) (a : Act) (w : World), Region.seqN md l.toArray ts listed = true → wpChainIn F n P l.toArray C Q (pick l ts) a w → wpAnyHIn F n P md l.toArray Q C ts.length listed a w
  | [], listed, a, w, hB, h => ⟨by simpa [Region.seqN] using hB, h⟩
  | k :: ks, listed, a, w, hB, h => by
    simp only [Region.seqN, Bool.and_eq_true, decide_eq_true_eq] at hB
    obtain ⟨⟨hs, hr⟩, hB'⟩ := hB
    obtain ⟨o, ho⟩ := Option.isSome_iff_exists.1 hs
    have ho' : l[k]? = some o := by simpa using ho
    simp only [pick, ho'] at h
    refine ⟨fun h0 => (by rw [hr] at h0; cases h0), fun i hi => ?_⟩
    rw [hr] at hi
    have hik : i = k := by simpa using hi
    subst hik
    have hw : wpOpIn F n P l.toArray Q i (fun a' w' => C w' ∧ wpChainIn F n P l.toArray C Q (pick l ks) a' w') a w := by
      unfold wpOpIn
      simp only [ho]
      unfold wpChainIn at h
      split
      · rename_i hwt; simp only [hwt, if_true] at h; exact h
      · rename_i hwt; simp only [hwt] at h; exact ⟨fun f _ => hF.fn f, h⟩
    exact wpOpIn_mono (fun a' w' h' => ⟨h'.1, wpAnyHIn_of_chain hF ks _ a' w' hB' h'.2⟩) hw

theorem wpAnyHIn_of_mix (hF : WideF F) {l : List Oper} (hnd : Region.noDefer l.toArray = true) {ts : List Nat} {w : World} (hsel : Region.noSelect l.toArray = true) (hQ : ∀ c a d v w, Q (.panic c) (a.put d v) w → Q (.panic c) a w) (hC : C w) :
    ∀ (hs : List Nat) (listed : Array Bool) (a : Act), Region.mixN md l.toArray ts hs listed = true →
    wpStillC P l.toArray C (fun a' => wpChainIn F n P l.toArray C Q (pick l ts) a' w) (pick l hs) a → wpAnyHIn F n P md l.toArray Q C (hs.length + ts.length) listed a w
  | [], listed, a, hB, h => by
    rw [List.length_nil, Nat.zero_add]
    exact wpAnyHIn_of_chain hF ts listed a w hB h
  | k :: ks, listed, a, hB, h => by
    simp only [Region.mixN, Bool.and_eq_true] at hB
    obtain ⟨⟨⟨hs, hr⟩, hf⟩, hB'⟩ := hB
    obtain ⟨o, ho⟩ := Option.isSome_iff_exists.1 hs
    have ho' : l[k]? = some o := by simpa using ho
    simp only [pick, ho'] at h
    rw [List.length_cons, show ks.length + 1 + ts.length = (ks.length + ts.length) + 1 by omega]
    unfold wpStillC at h
    by_cases hw : Region.wanted o (yielded l.toArray a.tmps) = true
    · rw [if_pos hw] at h
      obtain ⟨v, hv, h2⟩ := h
      exact mix_firstIn hF hnd ho (Region.noSelect_spec hsel) hQ _ listed a w (Region.free_spec ho hf) (by simpa using hr) (.inl ⟨hw, hv⟩) hC (wpAnyHIn_of_mix hF hnd hsel hQ hC ks _ _ hB' h2)
    · rw [if_neg hw] at h
      exact mix_firstIn hF hnd ho (Region.noSelect_spec hsel) hQ _ listed a w (Region.free_spec ho hf) (by simpa using hr) (.inr ⟨by simpa using hw, rfl⟩) hC (wpAnyHIn_of_mix hF hnd hsel hQ hC ks _ _ hB' h)

/-- **THE LAW**: hs: the numbers of the still ones; ts: those of the chain; the world behind the draw under a name, the class chosen then. -/
theorem wpIn_region_mix_at (hF : WideF F) {id : Nat} {a : Act} {w : World} {l : List Oper} (hs ts : List Nat) (hm : P.follows .mixedOrders = true)
    (hB : (Region.noDefer l.toArray && Region.noSelect l.toArray && decide (hs.length + ts.length = l.length) && Region.mixN .any l.toArray ts hs (Array.replicate l.length false)) = true)
    (hQ : ∀ c a d v w, Q (.panic c) (a.put d v) w → Q (.panic c) a w)
    (h : ∀ W : World, Up w W → W.heap = w.heap → ∃ C : World → Prop, C W ∧ wpStillC P l.toArray (fun w' => ∃ x : InC C, w' = x.w) (fun a' => wpChainIn F n P l.toArray (fun w' => ∃ x : InC C, w' = x.w) Q (pick l ts) a' W) (pick l hs) a) : (Code.region id l.toArray true).wpIn F n P Q a w := by
  obtain ⟨C, hC, h2⟩ := h w.drew (Up.refl w).drew rfl
  simp only [Bool.and_eq_true, decide_eq_true_eq] at hB
  obtain ⟨⟨⟨hnd, hsel⟩, hlen⟩, hmix⟩ := hB
  have := wpAnyHIn_of_mix (F := F) (n := n) hF hnd (md := .any) hsel hQ (inC hC : ∃ x : InC C, w.drew = x.w) hs _ a hmix h2
  refine wpIn_region_any hm (wpAnyIn_of_held (C := fun w' => ∃ x : InC C, w' = x.w) _ _ _ _ ?_)
  rw [hlen] at this
  simpa using this

theorem wpOpIn_of_chain (hF : WideF F) {l : List Oper} {k : Nat} {ks : List Nat} {listed : Array Bool} {a : Act} {w : World} (hs : (l.toArray[k]?).isSome = true) (hB' : Region.seqN md l.toArray ks (listed.setIfInBounds k true) = true) (h : wpChainIn F n P l.toArray C Q (pick l (k :: ks)) a w) :
    wpOpIn F n P l.toArray Q k (fun a' w' => C w' ∧ wpAnyHIn F n P md l.toArray Q C ks.length (listed.setIfInBounds k true) a' w') a w := by
  obtain ⟨o, ho⟩ := Option.isSome_iff_exists.1 hs
  have ho' : l[k]? = some o := by simpa using ho
  simp only [pick, ho'] at h
  have hw : wpOpIn F n P l.toArray Q k (fun a' w' => C w' ∧ wpChainIn F n P l.toArray C Q (pick l ks) a' w') a w := by
    unfold wpOpIn
    simp only [ho]
    unfold wpChainIn at h
    split
    · rename_i hwt; simp only [hwt, if_true] at h; exact h
    · rename_i hwt; simp only [hwt] at h; exact ⟨fun f _ => hF.fn f, h⟩
  exact wpOpIn_mono (fun a' w' h' => ⟨h'.1, wpAnyHIn_of_chain hF ks _ a' w' hB' h'.2⟩) hw

theorem wpAnyHIn_of_fork (hF : WideF F) {l : List Oper} (t1 t2 : List Nat) (listed : Array Bool) (a : Act) (w : World) (hB : Region.forkN md l.toArray t1 t2 listed = true) (h1 : wpChainIn F n P l.toArray C Q (pick l t1) a w) (h2 : wpChainIn F n P l.toArray C Q (pick l t2) a w) : wpAnyHIn F n P md l.toArray Q C t1.length listed a w := by
  match t1, t2, hB with
  | i :: r1, j :: r2, hB =>
    simp only [Region.forkN, Bool.and_eq_true, decide_eq_true_eq] at hB
    obtain ⟨⟨⟨⟨⟨hi, hj⟩, hr⟩, hl⟩, hb1⟩, hb2⟩ := hB
    refine ⟨fun h0 => (by rw [hr] at h0; cases h0), fun k hk => ?_⟩
    rw [hr] at hk
    rcases List.mem_cons.1 hk with rfl | hk
    · exact wpOpIn_of_chain hF hi hb1 h1
    · obtain rfl := List.mem_singleton.1 hk
      have := wpOpIn_of_chain (md := md) hF hj hb2 h2
      rw [← hl] at this
      exact this

theorem wpAnyHIn_of_mix2 (hF : WideF F) {l : List Oper} (hnd : Region.noDefer l.toArray = true) {t1 t2 : List Nat} {w : World} (hsel : Region.noSelect l.toArray = true) (hQ : ∀ c a d v w, Q (.panic c) (a.put d v) w → Q (.panic c) a w) (hC : C w) :
    ∀ (hs : List Nat) (listed : Array Bool) (a : Act), Region.mix2N md l.toArray t1 t2 hs listed = true →
    wpStillC P l.toArray C (fun a' => wpChainIn F n P l.toArray C Q (pick l t1) a' w ∧ wpChainIn F n P l.toArray C Q (pick l t2) a' w) (pick l hs) a → wpAnyHIn F n P md l.toArray Q C (hs.length + t1.length) listed a w
  | [], listed, a, hB, h => by
    rw [List.length_nil, Nat.zero_add]
    exact wpAnyHIn_of_fork hF t1 t2 listed a w hB h.1 h.2
  | k :: ks, listed, a, hB, h => by
    simp only [Region.mix2N, Bool.and_eq_true] at hB
    obtain ⟨⟨⟨hs, hr⟩, hf⟩, hB'⟩ := hB
    obtain ⟨o, ho⟩ := Option.isSome_iff_exists.1 hs
    have ho' : l[k]? = some o := by simpa using ho
    simp only [pick, ho'] at h
    rw [List.length_cons, show ks.length + 1 + t1.length = (ks.length + t1.length) + 1 by omega]
    unfold wpStillC at h
    by_cases hw : Region.wanted o (yielded l.toArray a.tmps) = true
    · rw [if_pos hw] at h
      obtain ⟨v, hv, h2⟩ := h
      exact mix_firstIn hF hnd ho (Region.noSelect_spec hsel) hQ _ listed a w (Region.free_spec ho hf) (by simpa using hr) (.inl ⟨hw, hv⟩) hC (wpAnyHIn_of_mix2 hF hnd hsel hQ hC ks _ _ hB' h2)
    · rw [if_neg hw] at h
      exact mix_firstIn hF hnd ho (Region.noSelect_spec hsel) hQ _ listed a w (Region.free_spec ho hf) (by simpa using hr) (.inr ⟨by simpa using hw, rfl⟩) hC (wpAnyHIn_of_mix2 hF hnd hsel hQ hC ks _ _ hB' h)

/-- **THE LAW, with a fork**: hs: the numbers of the still ones; t1, t2: the two orders of the rest. -/
theorem wpIn_region_fork_at (hF : WideF F) {id : Nat} {a : Act} {w : World} {l : List Oper} (hs t1 t2 : List Nat) (hm : P.follows .mixedOrders = true)
    (hB : (Region.noDefer l.toArray && Region.noSelect l.toArray && decide (hs.length + t1.length = l.length) && Region.mix2N .any l.toArray t1 t2 hs (Array.replicate l.length false)) = true)
    (hQ : ∀ c a d v w, Q (.panic c) (a.put d v) w → Q (.panic c) a w)
    (h : ∀ W : World, Up w W → W.heap = w.heap → ∃ C : World → Prop, C W ∧ wpStillC P l.toArray (fun w' => ∃ x : InC C, w' = x.w) (fun a' => wpChainIn F n P l.toArray (fun w' => ∃ x : InC C, w' = x.w) Q (pick l t1) a' W ∧ wpChainIn F n P l.toArray (fun w' => ∃ x : InC C, w' = x.w) Q (pick l t2) a' W) (pick l hs) a) : (Code.region id l.toArray true).wpIn F n P Q a w := by
  obtain ⟨C, hC, h2⟩ := h w.drew (Up.refl w).drew rfl
  simp only [Bool.and_eq_true, decide_eq_true_eq] at hB
  obtain ⟨⟨⟨hnd, hsel⟩, hlen⟩, hmix⟩ := hB
  have := wpAnyHIn_of_mix2 (F := F) (n := n) hF hnd (md := .any) hsel hQ (inC hC : ∃ x : InC C, w.drew = x.w) hs _ a hmix h2
  refine wpIn_region_any hm (wpAnyIn_of_held (C := fun w' => ∃ x : InC C, w' = x.w) _ _ _ _ ?_)
  rw [hlen] at this
  simpa using this

theorem wpStillC_mono {Q1 Q2 : Act → Prop} (h : ∀ a, Q1 a → Q2 a) : ∀ (l : List Oper) (a : Act), wpStillC P ops C Q1 l a → wpStillC P ops C Q2 l a
  | [], a, hh => h a hh
  | o :: rest, a, hh => by
    unfold wpStillC at hh ⊢
    split
    · rename_i hw
      rw [if_pos hw] at hh
      obtain ⟨v, h1, h2⟩ := hh
      exact ⟨v, h1, wpStillC_mono h rest _ h2⟩
    · rename_i hw
      rw [if_neg hw] at hh
      exact wpStillC_mono h rest _ hh

theorem wpChainIn_alloc (hF : WideF F) {o : Oper} {rest : List Oper} {a : Act} {w : World} (ty : TypeId) (m : Nat) (hA : Allocs P ty m) (ho : o.op = .alloc ty) (hg : o.guard = none)
    (h : ∀ W, Up w W → W.heap.size = w.heap.size + 1 → (∃ Z : Array Value, Z.size = m ∧ W.heap[w.heap.size]? = some (.cells Z ty (0, 0))) → C W ∧ wpChainIn F n P ops C Q rest (a.put o.dst (.pointer (some ⟨w.heap.size, 0, none⟩))) W) : wpChainIn F n P ops C Q (o :: rest) a w :=
  wpChainIn_want (by simp [Region.wanted, hg]) fun K hK => Oper.wpIn_of_wp hF (fun c e => by rw [ho] at e; cases e) (wp_allocG ty m hA ho fun W h1 h2 h3 => by
    obtain ⟨h4, h5⟩ := h W h1 h2 h3
    exact hK _ _ h4 h5)

/-- **two allocations of one type in either order**, then a chain -/
theorem wpIn_region_alloc2 (hF : WideF F) {id : Nat} {a : Act} {w : World} {l : List Oper} (hs rest : List Nat) (i j : Nat) (oi oj : Oper) (hi : l[i]? = some oi) (hj : l[j]? = some oj) (ty : TypeId) (m : Nat) (hA : Allocs P ty m)
    (hoi : oi.op = .alloc ty) (hoj : oj.op = .alloc ty) (hgi : oi.guard = none) (hgj : oj.guard = none) (hd : ∀ d, oi.dst = some d → oj.dst ≠ some d) (hm : P.follows .mixedOrders = true)
    (hB : (Region.noDefer l.toArray && Region.noSelect l.toArray && decide (hs.length + (i :: j :: rest).length = l.length) && Region.mix2N .any l.toArray (i :: j :: rest) (j :: i :: rest) hs (Array.replicate l.length false)) = true)
    (hQ : ∀ c a d v w, Q (.panic c) (a.put d v) w → Q (.panic c) a w)
    (h : ∀ W : World, Up w W → W.heap = w.heap → ∃ C : World → Prop, C W ∧ (∀ A B, C A → Up A B → C B) ∧ wpStillC P l.toArray (fun w' => ∃ x : InC C, w' = x.w) (fun a' => ∀ (b1 b2 : Nat) (W2 : World), Up W W2 → W.heap.size ≤ b1 → W.heap.size ≤ b2 → b1 ≠ b2 → (∃ Z : Array Value, Z.size = m ∧ W2.heap[b1]? = some (.cells Z ty (0, 0))) → (∃ Z : Array Value, Z.size = m ∧ W2.heap[b2]? = some (.cells Z ty (0, 0))) →
      wpChainIn F n P l.toArray (fun w' => ∃ x : InC C, w' = x.w) Q (pick l rest) ((a'.put oi.dst (.pointer (some ⟨b1, 0, none⟩))).put oj.dst (.pointer (some ⟨b2, 0, none⟩))) W2) (pick l hs) a) : (Code.region id l.toArray true).wpIn F n P Q a w := by
  refine wpIn_region_fork_at hF hs (i :: j :: rest) (j :: i :: rest) hm hB hQ ?_
  intro W hu hW
  obtain ⟨C, hC, hup, h2⟩ := h W hu hW
  refine ⟨C, hC, wpStillC_mono (fun a' ha => ?_) _ _ h2⟩
  have lt : ∀ {A : World} {b : Nat} {o : Obj}, A.heap[b]? = some o → b < A.heap.size := fun h => (Array.getElem?_eq_some_iff.1 h).1
  refine ⟨?_, ?_⟩
  · rw [show pick l (i :: j :: rest) = oi :: oj :: pick l rest by simp only [pick, hi, hj]]
    refine wpChainIn_alloc hF ty m hA hoi hgi fun W1 u1 s1 z1 => ⟨inC (hup _ _ hC u1), ?_⟩
    refine wpChainIn_alloc hF ty m hA hoj hgj fun W2 u2 s2 z2 => ⟨inC (hup _ _ hC (Up.trans u1 u2)), ?_⟩
    obtain ⟨Z1, hz1, hb1⟩ := z1
    exact ha _ _ W2 (Up.trans u1 u2) (Nat.le_refl _) u1.size (by omega) ⟨Z1, hz1, (u2.block _ (lt hb1)).trans hb1⟩ z2
  · rw [show pick l (j :: i :: rest) = oj :: oi :: pick l rest by simp only [pick, hi, hj]]
    refine wpChainIn_alloc hF ty m hA hoj hgj fun W1 u1 s1 z1 => ⟨inC (hup _ _ hC u1), ?_⟩
    refine wpChainIn_alloc hF ty m hA hoi hgi fun W2 u2 s2 z2 => ⟨inC (hup _ _ hC (Up.trans u1 u2)), ?_⟩
    obtain ⟨Z1, hz1, hb1⟩ := z1
    have := ha _ _ W2 (Up.trans u1 u2) u1.size (Nat.le_refl _) (by omega) z2 ⟨Z1, hz1, (u2.block _ (lt hb1)).trans hb1⟩
    rw [Act.put_comm _ _ _ hd] at this
    exact this
end

end Go.Proofs.YtobcfhninchnkaaDoor
