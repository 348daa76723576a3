/- OffersOrder in plain Lean: the order of the opens does not matter. -/
import Derived.Test.YtmifpokafaiebaaDoorFwA
namespace Go.Proofs.YtmifpokafaiebaaDoor
open Go Go.RowKit
set_option linter.unusedVariables false
set_option maxRecDepth 100000

section
variable {κ α β : Type} [DecidableEq κ]
theorem fillK_map (f : α → β) : ∀ (ks : List κ) (st : List (Option α)) (k : κ) (x : α), (fillK ks st k x).map (Option.map f) = fillK ks (st.map (Option.map f)) k (f x)
  | [], st, _, _ => rfl
  | _ :: _, [], _, _ => rfl
  | k0 :: ks, some y :: st, k, x => by
    show some (f y) :: (fillK ks st k x).map (Option.map f) = some (f y) :: fillK ks (st.map (Option.map f)) k (f x)
    rw [fillK_map f ks st k x]
  | k0 :: ks, none :: st, k, x => by
    show (if k0 = k then some x :: st else none :: fillK ks st k x).map (Option.map f) = (if k0 = k then some (f x) :: st.map (Option.map f) else none :: fillK ks (st.map (Option.map f)) k (f x))
    by_cases h : k0 = k
    · rw [if_pos h, if_pos h]; rfl
    · rw [if_neg h, if_neg h, List.map_cons, fillK_map f ks st k x]; rfl
theorem foldl_useK_map (f : α → β) (key : α → Option κ) (key2 : β → Option κ) (hk : ∀ x, key2 (f x) = key x) (ks : List κ) : ∀ (xs : List α) (st : List (Option α)), (xs.foldl (useK key ks) st).map (Option.map f) = (xs.map f).foldl (useK key2 ks) (st.map (Option.map f))
  | [], st => rfl
  | x :: xs, st => by
    rw [List.foldl_cons, foldl_useK_map f key key2 hk ks xs, List.map_cons, List.foldl_cons]
    congr 1
    unfold useK
    rw [hk]
    cases key x with
    | none => rfl
    | some k => exact fillK_map f ks st k x
theorem stK_map (f : α → β) (key : α → Option κ) (key2 : β → Option κ) (hk : ∀ x, key2 (f x) = key x) (ks : List κ) (xs : List α) : (stK key ks xs).map (Option.map f) = stK key2 ks (xs.map f) := by
  rw [stK, stK, foldl_useK_map f key key2 hk, List.map_replicate]; rfl
theorem outs_map (f : α → β) (no : α → Int) (no2 : β → Int) (hn : ∀ x, no2 (f x) = no x) : ∀ (seen : List Int) (st : List (Option α)), (outs no seen st).map f = outs no2 seen (st.map (Option.map f))
  | _, [] => rfl
  | seen, none :: st => outs_map f no no2 hn seen st
  | seen, some a :: st => by
    show (if no a ∈ seen then outs no seen st else a :: outs no (no a :: seen) st).map f = (if no2 (f a) ∈ seen then outs no2 seen (st.map (Option.map f)) else f a :: outs no2 (no2 (f a) :: seen) (st.map (Option.map f)))
    rw [hn]
    by_cases h : no a ∈ seen
    · rw [if_pos h, if_pos h, outs_map f no no2 hn]
    · rw [if_neg h, if_neg h, List.map_cons, outs_map f no no2 hn]
theorem sil_map (f : α → β) : ∀ (i : Nat) (st : List (Option α)), sil i (st.map (Option.map f)) = sil i st
  | _, [] => rfl
  | i, none :: st => by show i :: sil (i + 1) (st.map (Option.map f)) = i :: sil (i + 1) st; rw [sil_map f]
  | i, some _ :: st => by show sil (i + 1) (st.map (Option.map f)) = sil (i + 1) st; rw [sil_map f]
end

def plO (x : OpA) : Of × List UInt8 := (x.a.o, x.salt)
def plKey (y : Of × List UInt8) : Option (Int × List UInt8) := if msgE y.1 y.2 = 0 then some (y.1.farm, cmtB y.1 y.2) else none
/-- no two opens with different messages have one commitment -/
def NoClash (xs : List OpA) : Prop := ∀ x ∈ xs, ∀ y ∈ xs, msgE x.a.o x.salt = 0 → msgE y.a.o y.salt = 0 → cmtB x.a.o x.salt = cmtB y.a.o y.salt → encMsg x.a.o x.salt = encMsg y.a.o y.salt
theorem NoClash.same {xs : List OpA} (h : NoClash xs) : ∀ x ∈ xs.map plO, ∀ y ∈ xs.map plO, ∀ k, plKey x = some k → plKey y = some k → x = y := by
  intro x hx y hy k h1 h2
  obtain ⟨x, hx', rfl⟩ := List.mem_map.1 hx
  obtain ⟨y, hy', rfl⟩ := List.mem_map.1 hy
  change (if msgE x.a.o x.salt = 0 then some (x.a.o.farm, cmtB x.a.o x.salt) else none) = some k at h1
  change (if msgE y.a.o y.salt = 0 then some (y.a.o.farm, cmtB y.a.o y.salt) else none) = some k at h2
  by_cases m1 : msgE x.a.o x.salt = 0
  · by_cases m2 : msgE y.a.o y.salt = 0
    · rw [if_pos m1] at h1; rw [if_pos m2] at h2
      injection h1 with h1; injection h2 with h2
      have e : cmtB x.a.o x.salt = cmtB y.a.o y.salt := congrArg Prod.snd (h1.trans h2.symm)
      obtain ⟨a1, a2⟩ := encMsg_inj (msgE_ok m1).1 (msgE_ok m2).1 (msgE_ok m1).2 (msgE_ok m2).2 (h x hx' y hy' m1 m2 e)
      unfold plO; rw [a1, a2]
    · rw [if_neg m2] at h2; cases h2
  · rw [if_neg m1] at h1; cases h1
theorem revSt_perm (sls : List SlA) {xs ys : List OpA} (hp : xs.Perm ys) (h : NoClash xs) : (revSt sls xs).map (Option.map plO) = (revSt sls ys).map (Option.map plO) := by
  rw [revSt, revSt, stK_map plO opKey plKey (fun _ => rfl), stK_map plO opKey plKey (fun _ => rfl)]
  exact stK_perm plKey _ (hp.map plO) h.same
theorem ord_plain (sls : List SlA) {xs ys : List OpA} (hp : xs.Perm ys) (h : NoClash xs) : revO sls ys = revO sls xs ∧ revS sls ys = revS sls xs ∧ revE sls ys = revE sls xs := by
  have he : revE sls ys = revE sls xs := by unfold revE; rw [hp.length_eq]
  have hs := revSt_perm sls hp h
  refine ⟨?_, ?_, he⟩
  · have : ∀ zs : List OpA, (outs opNo [] (revSt sls zs)).map (fun x => x.a.o) = (outs (fun y : Of × List UInt8 => y.1.no) [] ((revSt sls zs).map (Option.map plO))).map Prod.fst := fun zs => by
      rw [← outs_map plO opNo (fun y : Of × List UInt8 => y.1.no) (fun _ => rfl), List.map_map]; rfl
    unfold revO
    rw [he, this, this, hs]
  · unfold revS
    rw [he, ← sil_map plO, ← sil_map plO 0 (revSt sls xs), hs]

/-! ### a map of strings -/
open Classical in
noncomputable def strF : List (List UInt8 × List UInt8) → Lit → Option Value
  | [], _ => none
  | (d, m) :: r, l => if l = .string d then some (.string (bsOf m)) else strF r l
def OneMsg (L : List (List UInt8 × List UInt8)) : Prop := ∀ d m m', (d, m) ∈ L → (d, m') ∈ L → m = m'
theorem strF_mem : ∀ (L : List (List UInt8 × List UInt8)) (d : List UInt8) (v : Value), strF L (.string d) = some v → ∃ m, (d, m) ∈ L ∧ v = .string (bsOf m)
  | [], d, v, h => by cases h
  | (d0, m0) :: r, d, v, h => by
    unfold strF at h
    by_cases e : (Lit.string d) = .string d0
    · rw [if_pos e] at h; injection h with h; injection e with e; subst e
      exact ⟨m0, List.mem_cons_self, h.symm⟩
    · rw [if_neg e] at h
      obtain ⟨m, h1, h2⟩ := strF_mem r d v h
      exact ⟨m, List.mem_cons_of_mem _ h1, h2⟩
theorem strF_none : ∀ (L : List (List UInt8 × List UInt8)) (d : List UInt8), strF L (.string d) = none → ∀ m, (d, m) ∉ L
  | [], d, h, m => by simp
  | (d0, m0) :: r, d, h, m => by
    unfold strF at h
    by_cases e : (Lit.string d) = .string d0
    · rw [if_pos e] at h; cases h
    · rw [if_neg e] at h
      intro hm
      rcases List.mem_cons.1 hm with hm | hm
      · injection hm with h1 h2; exact e (by rw [h1])
      · exact strF_none r d h m hm
theorem strF_nil : (fun _ => none : Lit → Option Value) = strF [] := rfl
theorem OneMsg.add {L : List (List UInt8 × List UInt8)} (h : OneMsg L) (d m : List UInt8) (hb : ∀ m', (d, m') ∈ L → m' = m) : OneMsg ((d, m) :: L) := by
  intro d' m1 m2 h1 h2
  have hone : ∀ m0, (d', m0) ∈ (d, m) :: L → ((d', m0) ∈ L ∨ (d' = d ∧ m0 = m)) := fun m0 h0 => by
    rcases List.mem_cons.1 h0 with h0 | h0
    · injection h0 with e1 e2; exact .inr ⟨e1, e2⟩
    · exact .inl h0
  rcases hone m1 h1 with a1 | ⟨e1, a1⟩
  · rcases hone m2 h2 with a2 | ⟨e2, a2⟩
    · exact h d' m1 m2 a1 a2
    · rw [a2]; exact hb m1 (by rw [← e2]; exact a1)
  · rcases hone m2 h2 with a2 | ⟨e2, a2⟩
    · rw [a1]; exact (hb m2 (by rw [← e1]; exact a2)).symm
    · rw [a1, a2]

end Go.Proofs.YtmifpokafaiebaaDoor
