/- OffersAll in plain Lean: seals that are the commitments of the opens, one by one. -/
import Derived.Test.YtmifpokafaiebaaDoorOrP
namespace Go.Proofs.YtmifpokafaiebaaDoor
open Go Go.RowKit
set_option linter.unusedVariables false
set_option maxRecDepth 100000

section
variable {κ α : Type} [DecidableEq κ]
theorem fillK_at : ∀ (P Q : List κ) (A B : List (Option α)) (k : κ) (x : α), A.length = P.length → k ∉ P → fillK (P ++ k :: Q) (A ++ none :: B) k x = A ++ some x :: B
  | [], Q, [], B, k, x, _, _ => by
    show (if k = k then some x :: B else none :: fillK Q B k x) = _
    rw [if_pos rfl]; rfl
  | p :: P, Q, none :: A, B, k, x, hl, hk => by
    have h1 : p ≠ k := fun e => hk (by rw [e]; exact List.mem_cons_self)
    show (if p = k then some x :: (A ++ none :: B) else none :: fillK (P ++ k :: Q) (A ++ none :: B) k x) = none :: (A ++ some x :: B)
    rw [if_neg h1, fillK_at P Q A B k x (by simpa using hl) (fun h => hk (List.mem_cons_of_mem _ h))]
  | p :: P, Q, some y :: A, B, k, x, hl, hk => by
    show some y :: fillK (P ++ k :: Q) (A ++ none :: B) k x = some y :: (A ++ some x :: B)
    rw [fillK_at P Q A B k x (by simpa using hl) (fun h => hk (List.mem_cons_of_mem _ h))]
  | [], _, _ :: _, _, _, _, hl, _ => by simp at hl
  | _ :: _, _, [], _, _, _, hl, _ => by simp at hl
theorem foldl_fill (key : α → Option κ) (kf : α → κ) (Q : List κ) (B : List (Option α)) : ∀ (ys : List α) (P : List κ) (A : List (Option α)), A.length = P.length → (∀ y ∈ ys, key y = some (kf y)) → (∀ y ∈ ys, kf y ∉ P) → (ys.map kf).Nodup →
    ys.foldl (useK key (P ++ (ys.map kf ++ Q))) (A ++ (List.replicate ys.length none ++ B)) = A ++ (ys.map some ++ B)
  | [], P, A, _, _, _, _ => rfl
  | y :: ys, P, A, hl, hk, hp, hd => by
    rw [List.map_cons, List.nodup_cons] at hd
    have e1 : useK key (P ++ ((y :: ys).map kf ++ Q)) (A ++ (List.replicate (y :: ys).length none ++ B)) y = A ++ some y :: (List.replicate ys.length none ++ B) := by
      unfold useK
      rw [hk y List.mem_cons_self]
      exact fillK_at P (ys.map kf ++ Q) A (List.replicate ys.length none ++ B) (kf y) y hl (hp y List.mem_cons_self)
    have e2 := foldl_fill key kf Q B ys (P ++ [kf y]) (A ++ [some y]) (by simp [hl]) (fun z hz => hk z (List.mem_cons_of_mem _ hz)) (fun z hz => by
      intro h
      rcases List.mem_append.1 h with h | h
      · exact hp z (List.mem_cons_of_mem _ hz) h
      · rw [List.mem_singleton] at h
        exact hd.1 (by rw [← h]; exact List.mem_map_of_mem hz)) hd.2
    rw [List.foldl_cons, e1]
    rw [List.append_assoc, List.append_assoc, List.append_assoc, List.singleton_append, List.singleton_append, List.singleton_append] at e2
    exact e2
theorem stK_all (key : α → Option κ) (kf : α → κ) (xs : List α) (hk : ∀ y ∈ xs, key y = some (kf y)) (hd : (xs.map kf).Nodup) : stK key (xs.map kf) xs = xs.map some := by
  have := foldl_fill key kf [] [] xs [] [] rfl hk (fun _ _ h => by cases h) hd
  simpa [stK] using this
theorem stK_but (key : α → Option κ) (kf : α → κ) (a b : List α) (x : α) (hk : ∀ y ∈ a ++ x :: b, key y = some (kf y)) (hd : ((a ++ x :: b).map kf).Nodup) : stK key ((a ++ x :: b).map kf) (a ++ b) = a.map some ++ none :: b.map some := by
  rw [List.map_append, List.map_cons] at hd
  obtain ⟨d1, d2, d3⟩ := List.nodup_append.1 hd
  rw [List.nodup_cons] at d2
  have e1 := foldl_fill key kf (kf x :: b.map kf) (none :: List.replicate b.length none) a [] [] rfl (fun y hy => hk y (by simp [hy])) (fun _ _ h => by cases h) d1
  have e2 := foldl_fill key kf [] [] b (a.map kf ++ [kf x]) (a.map some ++ [none]) (by simp) (fun y hy => hk y (by simp [hy])) (fun y hy h => by
    rcases List.mem_append.1 h with h | h
    · exact d3 _ h _ (List.mem_cons_of_mem _ (List.mem_map_of_mem hy)) rfl
    · rw [List.mem_singleton] at h
      exact d2.1 (by rw [← h]; exact List.mem_map_of_mem hy)) d2.2
  unfold stK
  rw [List.foldl_append]
  have h0 : List.replicate ((a ++ x :: b).map kf).length (none : Option α) = [] ++ (List.replicate a.length none ++ (none :: List.replicate b.length none)) := by
    rw [List.nil_append, List.length_map, List.length_append, List.length_cons, ← List.replicate_succ, List.replicate_append_replicate]
  have h1 : (a ++ x :: b).map kf = [] ++ (a.map kf ++ (kf x :: b.map kf)) := by rw [List.nil_append, List.map_append, List.map_cons]
  rw [h0, h1, e1]
  simp only [List.nil_append, List.append_nil, List.append_assoc, List.singleton_append] at e2 ⊢
  exact e2
theorem outs_all (no : α → Int) : ∀ (st : List (Option α)) (seen : List Int), (∀ a ∈ st.filterMap id, no a ∉ seen) → (st.filterMap id).Pairwise (fun a b => no a ≠ no b) → outs no seen st = st.filterMap id
  | [], _, _, _ => rfl
  | none :: st, seen, h, hd => by
    show outs no seen st = _
    rw [outs_all no st seen h hd]; rfl
  | some a :: st, seen, h, hd => by
    have e : (some a :: st).filterMap id = a :: st.filterMap id := rfl
    rw [e] at h hd ⊢
    rw [List.pairwise_cons] at hd
    show (if no a ∈ seen then outs no seen st else a :: outs no (no a :: seen) st) = _
    rw [if_neg (h a List.mem_cons_self), outs_all no st (no a :: seen) (fun b hb hm => by
      rcases List.mem_cons.1 hm with hm | hm
      · exact hd.1 b hb hm.symm
      · exact h b (List.mem_cons_of_mem _ hb) hm) hd.2]
theorem sil_all : ∀ (xs : List α) (i : Nat), sil i (xs.map some) = []
  | [], _ => rfl
  | _ :: xs, i => sil_all xs (i + 1)
theorem sil_but : ∀ (a b : List α) (i : Nat), sil i (a.map some ++ none :: b.map some) = [i + a.length]
  | [], b, i => by show i :: sil (i + 1) (b.map some) = _; rw [sil_all]; rfl
  | _ :: a, b, i => by
    show sil (i + 1) (a.map some ++ none :: b.map some) = _
    rw [sil_but a b (i + 1), List.length_cons]; congr 1; omega
end

def kfO (x : OpA) : Int × List UInt8 := (x.a.o.farm, cmtB x.a.o x.salt)
/-- every open has a commitment, no two the same, no two Nos the same -/
structure AllOk (xs : List OpA) : Prop where
  good : ∀ x ∈ xs, msgE x.a.o x.salt = 0
  dig : (xs.map fun x => cmtB x.a.o x.salt).Nodup
  no : xs.Pairwise fun a b => opNo a ≠ opNo b
theorem AllOk.key {xs : List OpA} (h : AllOk xs) : ∀ y ∈ xs, opKey y = some (kfO y) := fun y hy => by
  unfold opKey; rw [if_pos (h.good y hy)]; rfl
theorem AllOk.kf {xs : List OpA} (h : AllOk xs) : (xs.map kfO).Nodup := by
  have h1 := h.dig
  rw [List.nodup_iff_pairwise_ne, List.pairwise_map] at h1 ⊢
  exact h1.imp fun hne e => hne (congrArg Prod.snd e)
theorem AllOk.sls {xs : List OpA} {sls : List SlA} (h : AllOk xs) (hs : sls.map slKey = xs.map kfO) (hl : xs.length ≤ 64) : (sls.all fun s => !badSl s) = true ∧ sls.length = xs.length := by
  have hlen : sls.length = xs.length := by have := congrArg List.length hs; simpa using this
  refine ⟨?_, hlen⟩
  rw [List.all_eq_true]
  intro s hm
  have : slKey s ∈ xs.map kfO := by rw [← hs]; exact List.mem_map_of_mem hm
  obtain ⟨x, hx, e⟩ := List.mem_map.1 this
  have e1 : x.a.o.farm = s.farm := congrArg Prod.fst e
  have e2 : cmtB x.a.o x.salt = s.dig := congrArg Prod.snd e
  have ok := (msgE_ok (h.good x hx)).1
  have f1 := ok.farm
  have l := cmtB_length x.a.o x.salt
  rw [e1] at f1; rw [e2] at l
  unfold badSl
  rw [decide_eq_false (by omega), decide_eq_false (by omega), decide_eq_false (by omega)]
  rfl
theorem all_plain {xs : List OpA} {sls : List SlA} (h : AllOk xs) (hs : sls.map slKey = xs.map kfO) (hl : xs.length ≤ 64) : revE sls xs = 0 ∧ revO sls xs = xs.map (fun x => x.a.o) ∧ revS sls xs = [] := by
  obtain ⟨hb, hlen⟩ := h.sls hs hl
  have he : revE sls xs = 0 := by unfold revE; rw [if_neg (by omega), if_pos hb]
  have hst : revSt sls xs = xs.map some := by rw [revSt, hs]; exact stK_all opKey kfO xs h.key h.kf
  have hf : (xs.map some).filterMap id = xs := by rw [List.filterMap_map]; simp
  refine ⟨he, ?_, ?_⟩
  · unfold revO
    rw [if_pos he, hst, outs_all opNo _ [] (fun _ _ h => by cases h) (by rw [hf]; exact h.no), hf]
  · unfold revS
    rw [if_pos he, hst, sil_all]; rfl
theorem but_plain {a b : List OpA} {x : OpA} {sls : List SlA} (h : AllOk (a ++ x :: b)) (hs : sls.map slKey = (a ++ x :: b).map kfO) (hl : (a ++ x :: b).length ≤ 64) :
    revE sls (a ++ b) = 0 ∧ revO sls (a ++ b) = (a ++ b).map (fun x => x.a.o) ∧ revS sls (a ++ b) = [(a.length : Int)] := by
  obtain ⟨hb, hlen⟩ := h.sls hs hl
  have he : revE sls (a ++ b) = 0 := by
    unfold revE; rw [if_neg (by rw [hlen]; simp only [List.length_append, List.length_cons] at hl ⊢; omega), if_pos hb]
  have hst : revSt sls (a ++ b) = a.map some ++ none :: b.map some := by rw [revSt, hs]; exact stK_but opKey kfO a b x h.key h.kf
  have hf : (a.map some ++ none :: b.map some).filterMap id = a ++ b := by
    rw [List.filterMap_append, List.filterMap_cons, List.filterMap_map, List.filterMap_map]; simp
  have hno : (a ++ b).Pairwise fun a b => opNo a ≠ opNo b := by
    have := h.no
    refine List.Pairwise.sublist ?_ this
    exact List.Sublist.append (List.Sublist.refl _) (List.sublist_cons_self _ _)
  refine ⟨he, ?_, ?_⟩
  · unfold revO
    rw [if_pos he, hst, outs_all opNo _ [] (fun _ _ h => by cases h) (by rw [hf]; exact hno), hf]
  · unfold revS
    rw [if_pos he, hst, sil_but]; simp

end Go.Proofs.YtmifpokafaiebaaDoor
