/- the plain law of Reveal: seals are filled by opens. the program's offers.Reveal: seals, slices.Equal, ContainsFunc, slices.Clone. maps whose elements are carried as values: make, look up, store. the program's offers.Reveal: the closure that uses an open. the program's offers.Reveal. the program's offers.Reveal, where seals are right. -/
import Derived.Test.YtmifpokafaiebaaDoorIter
import Derived.Test.YtmifpokafaiebaaDoorOgA
import Derived.Test.YtmifpokafaiebaaDoorQIn
import Derived.Maps.OwnSet
namespace Go.Proofs.YtmifpokafaiebaaDoor
set_option linter.unusedVariables false

section
variable {κ α : Type} [DecidableEq κ]
/-- an open with the key k fills the first free seal of that key -/
def fillK : List κ → List (Option α) → κ → α → List (Option α)
  | k0 :: ks, none :: st, k, x => if k0 = k then some x :: st else none :: fillK ks st k x
  | _ :: ks, some y :: st, k, x => some y :: fillK ks st k x
  | [], st, _, _ => st
  | _ :: _, [], _, _ => []
def useK (key : α → Option κ) (ks : List κ) (st : List (Option α)) (x : α) : List (Option α) := match key x with | none => st | some k => fillK ks st k x
def outs (no : α → Int) : List Int → List (Option α) → List α
  | _, [] => []
  | seen, none :: st => outs no seen st
  | seen, some a :: st => if no a ∈ seen then outs no seen st else a :: outs no (no a :: seen) st
def sil : Nat → List (Option α) → List Nat
  | _, [] => []
  | i, none :: st => i :: sil (i + 1) st
  | i, some _ :: st => sil (i + 1) st
/-- the state behind all opens -/
def stK (key : α → Option κ) (ks : List κ) (xs : List α) : List (Option α) := xs.foldl (useK key ks) (List.replicate ks.length none)

theorem fillK_length : ∀ (ks : List κ) (st : List (Option α)) (k : κ) (x : α), (fillK ks st k x).length = st.length
  | [], st, _, _ => rfl
  | _ :: _, [], _, _ => rfl
  | k0 :: ks, none :: st, k, x => by
    rw [fillK]; by_cases h : k0 = k
    · rw [if_pos h]; rfl
    · rw [if_neg h, List.length_cons, List.length_cons, fillK_length ks st k x]
  | _ :: ks, some y :: st, k, x => by rw [fillK, List.length_cons, List.length_cons, fillK_length ks st k x]
theorem useK_length (key : α → Option κ) (ks : List κ) (st : List (Option α)) (x : α) : (useK key ks st x).length = st.length := by
  unfold useK; split
  · rfl
  · exact fillK_length _ _ _ _
theorem foldl_useK_length (key : α → Option κ) (ks : List κ) : ∀ (xs : List α) (st : List (Option α)), (xs.foldl (useK key ks) st).length = st.length
  | [], st => rfl
  | x :: xs, st => by rw [List.foldl_cons, foldl_useK_length key ks xs, useK_length]
theorem stK_length (key : α → Option κ) (ks : List κ) (xs : List α) : (stK key ks xs).length = ks.length := by rw [stK, foldl_useK_length, List.length_replicate]

/-- filling, cell by cell -/
theorem fillK_drop_some (ks : List κ) (st : List (Option α)) (k : κ) (x y : α) (i : Nat) (h1 : i < ks.length) (h2 : st[i]? = some (some y)) :
    fillK (ks.drop i) (st.drop i) k x = some y :: fillK (ks.drop (i + 1)) (st.drop (i + 1)) k x := by
  obtain ⟨h3, h4⟩ := List.getElem?_eq_some_iff.1 h2
  rw [List.drop_eq_getElem_cons h1, List.drop_eq_getElem_cons h3, h4, fillK]
theorem fillK_drop_ne (ks : List κ) (st : List (Option α)) (k : κ) (x : α) (i : Nat) (h1 : i < ks.length) (h2 : st[i]? = some none) (h : ks[i] ≠ k) :
    fillK (ks.drop i) (st.drop i) k x = none :: fillK (ks.drop (i + 1)) (st.drop (i + 1)) k x := by
  obtain ⟨h3, h4⟩ := List.getElem?_eq_some_iff.1 h2
  rw [List.drop_eq_getElem_cons h1, List.drop_eq_getElem_cons h3, h4, fillK, if_neg h]
theorem fillK_drop_eq (ks : List κ) (st : List (Option α)) (k : κ) (x : α) (i : Nat) (h1 : i < ks.length) (h2 : st[i]? = some none) (h : ks[i] = k) :
    fillK (ks.drop i) (st.drop i) k x = some x :: st.drop (i + 1) := by
  obtain ⟨h3, h4⟩ := List.getElem?_eq_some_iff.1 h2
  rw [List.drop_eq_getElem_cons h1, List.drop_eq_getElem_cons h3, h4, fillK, if_pos h]

/-- two opens in either order -/
theorem fillK_comm : ∀ (ks : List κ) (st : List (Option α)) (k k' : κ) (x y : α), (k = k' → x = y) → fillK ks (fillK ks st k x) k' y = fillK ks (fillK ks st k' y) k x
  | [], st, _, _, _, _, _ => rfl
  | _ :: _, [], _, _, _, _, _ => rfl
  | k0 :: ks, some z :: st, k, k', x, y, h => by
    rw [fillK, fillK, fillK, fillK, fillK_comm ks st k k' x y h]
  | k0 :: ks, none :: st, k, k', x, y, h => by
    by_cases h1 : k0 = k
    · by_cases h2 : k0 = k'
      · have hk : k = k' := h1.symm.trans h2
        have := h hk
        subst hk this
        rfl
      · rw [fillK, if_pos h1, fillK, fillK, if_neg h2, fillK, if_pos h1]
    · by_cases h2 : k0 = k'
      · rw [fillK, if_neg h1, fillK, if_pos h2, fillK, if_pos h2, fillK]
      · rw [fillK, if_neg h1, fillK, if_neg h2, fillK, if_neg h2, fillK, if_neg h1, fillK_comm ks st k k' x y h]
theorem useK_comm (key : α → Option κ) (ks : List κ) (st : List (Option α)) (x y : α) (h : ∀ k, key x = some k → key y = some k → x = y) : useK key ks (useK key ks st x) y = useK key ks (useK key ks st y) x := by
  unfold useK
  cases hx : key x with
  | none => rfl
  | some k =>
    cases hy : key y with
    | none => simp
    | some k' => exact fillK_comm ks st k k' x y fun e => h k hx (by rw [hy, e])
theorem stK_perm (key : α → Option κ) (ks : List κ) {xs ys : List α} (hp : xs.Perm ys) (h : ∀ x ∈ xs, ∀ y ∈ xs, ∀ k, key x = some k → key y = some k → x = y) : stK key ks xs = stK key ks ys :=
  hp.foldl_eq' (fun x hx y hy z => useK_comm key ks z x y (h x hx y hy)) _

/-- what one more open does -/
theorem fillK_one : ∀ (ks : List κ) (st : List (Option α)) (k : κ) (x : α), fillK ks st k x = st ∨ ∃ a b, st = a ++ none :: b ∧ fillK ks st k x = a ++ some x :: b
  | [], st, _, _ => .inl rfl
  | _ :: _, [], _, _ => .inl rfl
  | k0 :: ks, some z :: st, k, x => by
    rw [fillK]
    rcases fillK_one ks st k x with h | ⟨a, b, h1, h2⟩
    · exact .inl (by rw [h])
    · exact .inr ⟨some z :: a, b, by rw [h1]; rfl, by rw [h2]; rfl⟩
  | k0 :: ks, none :: st, k, x => by
    rw [fillK]
    by_cases h1 : k0 = k
    · exact .inr ⟨[], st, rfl, by rw [if_pos h1]; rfl⟩
    · rw [if_neg h1]
      rcases fillK_one ks st k x with h | ⟨a, b, h1, h2⟩
      · exact .inl (by rw [h])
      · exact .inr ⟨none :: a, b, by rw [h1]; rfl, by rw [h2]; rfl⟩
theorem useK_one (key : α → Option κ) (ks : List κ) (st : List (Option α)) (x : α) : useK key ks st x = st ∨ ∃ a b, st = a ++ none :: b ∧ useK key ks st x = a ++ some x :: b := by
  unfold useK
  split
  · exact .inl rfl
  · exact fillK_one _ _ _ _

theorem sil_length : ∀ (i : Nat) (st : List (Option α)), (sil i st).length + (st.filter Option.isSome).length = st.length
  | _, [] => rfl
  | i, none :: st => by have := sil_length (i + 1) st; simp [sil]; omega
  | i, some a :: st => by have := sil_length (i + 1) st; simp [sil]; omega
theorem sil_length_one (i : Nat) (a b : List (Option α)) (x : α) : (sil i (a ++ some x :: b)).length + 1 = (sil i (a ++ none :: b)).length := by
  have h1 := sil_length i (a ++ some x :: b)
  have h2 := sil_length i (a ++ none :: b)
  simp at h1 h2
  omega
theorem sil_bounds : ∀ (i : Nat) (st : List (Option α)), (∀ n ∈ sil i st, i ≤ n ∧ n < i + st.length) ∧ (sil i st).Pairwise (· < ·)
  | _, [] => ⟨by simp [sil], by simp [sil]⟩
  | i, none :: st => by
    obtain ⟨h1, h2⟩ := sil_bounds (i + 1) st
    refine ⟨fun n hn => ?_, ?_⟩
    · rcases List.mem_cons.1 hn with rfl | hn
      · simp
      · have := h1 n hn; simp; omega
    · rw [sil, List.pairwise_cons]; exact ⟨fun n hn => by have := h1 n hn; omega, h2⟩
  | i, some a :: st => by
    obtain ⟨h1, h2⟩ := sil_bounds (i + 1) st
    exact ⟨fun n hn => by have := h1 n hn; simp; omega, h2⟩
theorem outs_mem (no : α → Int) : ∀ (seen : List Int) (st : List (Option α)) (a : α), a ∈ outs no seen st → some a ∈ st ∧ no a ∉ seen
  | _, [], a, h => by cases h
  | seen, none :: st, a, h => by have := outs_mem no seen st a h; exact ⟨List.mem_cons_of_mem _ this.1, this.2⟩
  | seen, some b :: st, a, h => by
    rw [outs] at h
    by_cases hb : no b ∈ seen
    · rw [if_pos hb] at h; have := outs_mem no seen st a h; exact ⟨List.mem_cons_of_mem _ this.1, this.2⟩
    · rw [if_neg hb] at h
      rcases List.mem_cons.1 h with rfl | h
      · exact ⟨by simp, hb⟩
      · have := outs_mem no _ st a h; exact ⟨List.mem_cons_of_mem _ this.1, fun hn => this.2 (List.mem_cons_of_mem _ hn)⟩
theorem outs_nodup (no : α → Int) : ∀ (seen : List Int) (st : List (Option α)), (outs no seen st).Pairwise (fun a b => no a ≠ no b)
  | _, [] => by simp [outs]
  | seen, none :: st => outs_nodup no seen st
  | seen, some b :: st => by
    rw [outs]
    by_cases hb : no b ∈ seen
    · rw [if_pos hb]; exact outs_nodup no seen st
    · rw [if_neg hb, List.pairwise_cons]
      exact ⟨fun a ha e => (outs_mem no _ st a ha).2 (by rw [← e]; simp), outs_nodup no _ st⟩
theorem outs_length (no : α → Int) : ∀ (seen : List Int) (st : List (Option α)), (outs no seen st).length ≤ (st.filter Option.isSome).length
  | _, [] => by simp [outs]
  | seen, none :: st => by simpa [outs] using outs_length no seen st
  | seen, some b :: st => by
    rw [outs]
    by_cases hb : no b ∈ seen
    · rw [if_pos hb]; have := outs_length no seen st; simp; omega
    · rw [if_neg hb]; have := outs_length no (no b :: seen) st; simp; omega
/-- the offers with another number -/
theorem outs_rest (no : α → Int) (n : Int) : ∀ (st : List (Option α)) (seen seen' : List Int), (∀ m, m ≠ n → (m ∈ seen ↔ m ∈ seen')) →
    (outs no seen st).filter (fun a => no a != n) = (outs no seen' st).filter (fun a => no a != n)
  | [], _, _, _ => rfl
  | none :: st, seen, seen', h => outs_rest no n st seen seen' h
  | some b :: st, seen, seen', h => by
    by_cases hn : no b = n
    · have e : ∀ s, (outs no s (some b :: st)).filter (fun a => no a != n) = (outs no s st).filter (fun a => no a != n) := fun s => by
        rw [outs]
        by_cases hb : no b ∈ s
        · rw [if_pos hb]
        · rw [if_neg hb, List.filter_cons_of_neg (by simp [hn])]
          exact outs_rest no n st _ _ fun m hm => by rw [hn]; simp [hm]
      rw [e, e]; exact outs_rest no n st _ _ h
    · rw [outs, outs]
      by_cases hb : no b ∈ seen
      · rw [if_pos hb, if_pos ((h _ hn).1 hb)]; exact outs_rest no n st _ _ h
      · rw [if_neg hb, if_neg fun hh => hb ((h _ hn).2 hh), List.filter_cons_of_pos (by simp [hn]), List.filter_cons_of_pos (by simp [hn])]
        rw [outs_rest no n st (no b :: seen) (no b :: seen') fun m hm => by simp only [List.mem_cons, h m hm]]
termination_by st => st.length
theorem outs_insert (no : α → Int) (x : α) : ∀ (a b : List (Option α)) (seen : List Int),
    (outs no seen (a ++ some x :: b)).filter (fun a => no a != no x) = (outs no seen (a ++ none :: b)).filter (fun a => no a != no x)
  | [], b, seen => by
    rw [List.nil_append, List.nil_append, outs, outs]
    by_cases hb : no x ∈ seen
    · rw [if_pos hb]
    · rw [if_neg hb, List.filter_cons_of_neg (by simp)]
      exact outs_rest no _ b _ _ fun m hm => by simp [hm]
  | none :: a, b, seen => outs_insert no x a b seen
  | some y :: a, b, seen => by
    rw [List.cons_append, List.cons_append, outs, outs]
    by_cases hb : no y ∈ seen
    · rw [if_pos hb, if_pos hb]; exact outs_insert no x a b seen
    · rw [if_neg hb, if_neg hb, List.filter_cons, List.filter_cons, outs_insert no x a b]

/-- all cells come from opens of that key -/
theorem fillK_from : ∀ (ks : List κ) (st : List (Option α)) (k : κ) (x : α) (i : Nat) (a : α), (fillK ks st k x)[i]? = some (some a) → st[i]? = some (some a) ∨ (a = x ∧ ks[i]? = some k)
  | [], st, _, _, i, a, h => .inl h
  | _ :: _, [], _, _, i, a, h => by simp [fillK] at h
  | k0 :: ks, some z :: st, k, x, i, a, h => by
    rw [fillK] at h
    cases i with
    | zero => exact .inl h
    | succ i => simpa using fillK_from ks st k x i a (by simpa using h)
  | k0 :: ks, none :: st, k, x, i, a, h => by
    rw [fillK] at h
    by_cases h1 : k0 = k
    · rw [if_pos h1] at h
      cases i with
      | zero => right; simp at h; exact ⟨h.symm, by simp [h1]⟩
      | succ i => left; simpa using h
    · rw [if_neg h1] at h
      cases i with
      | zero => simp at h
      | succ i => simpa using fillK_from ks st k x i a (by simpa using h)
theorem foldl_from (key : α → Option κ) (ks : List κ) : ∀ (xs : List α) (st : List (Option α)) (i : Nat) (a : α), (xs.foldl (useK key ks) st)[i]? = some (some a) → st[i]? = some (some a) ∨ (a ∈ xs ∧ ∃ k, key a = some k ∧ ks[i]? = some k)
  | [], st, i, a, h => .inl h
  | x :: xs, st, i, a, h => by
    rcases foldl_from key ks xs _ i a h with h | ⟨h1, h2⟩
    · unfold useK at h
      cases hk : key x with
      | none => rw [hk] at h; exact .inl h
      | some k =>
        rw [hk] at h
        rcases fillK_from ks st k x i a h with h | ⟨e, h'⟩
        · exact .inl h
        · exact .inr ⟨by simp [e], k, by rw [e]; exact hk, h'⟩
    · exact .inr ⟨List.mem_cons_of_mem _ h1, h2⟩
theorem stK_from (key : α → Option κ) (ks : List κ) (xs : List α) (i : Nat) (a : α) (h : (stK key ks xs)[i]? = some (some a)) : a ∈ xs ∧ ∃ k, key a = some k ∧ ks[i]? = some k := by
  rcases foldl_from key ks xs _ i a h with h | h
  · rw [List.getElem?_replicate] at h; split at h <;> simp at h
  · exact h
/-- at most as many as opens -/
theorem foldl_count (key : α → Option κ) (ks : List κ) : ∀ (xs : List α) (st : List (Option α)), ((xs.foldl (useK key ks) st).filter Option.isSome).length ≤ (st.filter Option.isSome).length + xs.length
  | [], st => by simp
  | x :: xs, st => by
    have h := foldl_count key ks xs (useK key ks st x)
    rw [List.foldl_cons]
    rcases useK_one key ks st x with e | ⟨a, b, e1, e2⟩
    · rw [e] at h ⊢; simp at h ⊢; omega
    · rw [e2] at h ⊢; rw [e1]; simp at h ⊢; omega
theorem stK_count (key : α → Option κ) (ks : List κ) (xs : List α) : ((stK key ks xs).filter Option.isSome).length ≤ xs.length := by
  have := foldl_count key ks xs (List.replicate ks.length none)
  have e : ((List.replicate ks.length (none : Option α)).filter Option.isSome).length = 0 := by
    rw [List.filter_eq_nil_iff.2 (by intro a ha; rw [List.mem_replicate] at ha; rw [ha.2]; simp)]; rfl
  rw [e, Nat.zero_add] at this
  exact this
end
end Go.Proofs.YtmifpokafaiebaaDoor

namespace Go.Proofs.YtmifpokafaiebaaDoor
open Go Go.RowKit
set_option linter.unusedVariables false
set_option maxRecDepth 100000

theorem cell_up {w w' : World} {b o : Nat} {v : Value} (h : w.cell? ⟨b, o, none⟩ = some v) (hu : Up w w') : w'.cell? ⟨b, o, none⟩ = some v := (hu.below.cell (p := ⟨b, o, none⟩) (block_lt_of_cell h)).trans h

set_option maxHeartbeats 2000000 in
theorem sequal_calls (p q : Option Addr) (n m c d : Nat) (l k : List UInt8) (w : World) (hn : n = l.length) (hm : m = k.length) (hn7 : n ≤ 1000000) (hc : n ≤ c) (hcm : c ≤ maxLen) (hd : m ≤ d) (hdm : d ≤ maxLen) (h1 : SB w p l) (h2 : SB w q k) :
    Calls Tryd.prog 40 #[.slice p n c, .slice q m d] w fun e w' => e = .returned (.bool (decide (l = k))) ∧ Up w w' := by
  obtain ⟨V, hV⟩ : ∃ V, V = decide (l = k) := ⟨_, rfl⟩
  rw [← hV]
  by_cases hnm : n = m
  case neg =>
    have d1 : (((n : Nat) : Int) != ((m : Nat) : Int)) = true := by rw [bne_iff_ne]; omega
    have e : V = false := by rw [hV]; exact decide_eq_false (by rintro rfl; omega)
    rw [e]
    clear hV hn hm h1 h2 hnm e
    go_enter Tryd.func40, Tryd.ntmps40
    go_wp2
    go_ret
    exact ⟨rfl, Up.refl _⟩
  subst hnm
  have HV := Lib.hid hV
  have HN := Lib.hid hn
  have HM := Lib.hid hm
  have H1 := Lib.hid h1
  have H2 := Lib.hid h2
  clear hV hn hm h1 h2
  go_enter Tryd.func40, Tryd.ntmps40
  go_wp2
  go_loopw [5, 13] (fun _ v wq => ∃ i : Nat, i ≤ n ∧ v = .int .i64 i ∧ Hid (l.take i = k.take i) ∧ Hid (Up w wq)) (fun _ v _ => n - (intOf v).toNat)
  case atStart => exact ⟨0, by omega, rfl, by simp [Lib.hid], Up.refl _⟩
  case round =>
    obtain ⟨i, hi, rfl, HT, HU⟩ := hrel
    by_cases hlt : i < n
    case neg =>
      have hv : V = true := by
        rw [HV.out, decide_eq_true_eq]
        have := HT.out
        rw [List.take_of_length_le (by rw [← HN.out]; omega), List.take_of_length_le (by rw [← HM.out]; omega)] at this
        exact this
      subst hv
      go_wp2
      go_ret
      exact ⟨rfl, HU.out⟩
    have hil : i < l.length := by rw [← HN.out]; exact hlt
    have hik : i < k.length := by rw [← HM.out]; exact hlt
    obtain ⟨b1, o1, rfl, hr1⟩ := H1.out (by rintro rfl; simp at hil)
    obtain ⟨b2, o2, rfl, hr2⟩ := H2.out (by rintro rfl; simp at hik)
    have g1 := cell_up (hr1 i hil) HU.out
    have g2 := cell_up (hr2 i hik) HU.out
    have htk1 := List.take_succ_eq_append_getElem hil
    have htk2 := List.take_succ_eq_append_getElem hik
    have hne : l[i] ≠ k[i] → V = false := fun hne => by
      rw [HV.out]
      exact decide_eq_false fun e => hne (by simp only [e])
    obtain ⟨x, hxx⟩ : ∃ x, x = l[i] := ⟨_, rfl⟩
    obtain ⟨y, hyy⟩ : ∃ y, y = k[i] := ⟨_, rfl⟩
    rw [← hxx] at g1 htk1 hne
    rw [← hyy] at g2 htk2 hne
    have k1 : ∀ z : UpW wr.drew, z.w.cell? ⟨b1, o1 + i, none⟩ = some (.int .u8 (x.toNat : Nat)) := fun z => cell_up g1 (Up.trans (Up.refl wr).drew z.up)
    have k2 : ∀ z : UpW wr.drew, z.w.cell? ⟨b2, o2 + i, none⟩ = some (.int .u8 (y.toNat : Nat)) := fun z => cell_up g2 (Up.trans (Up.refl wr).drew z.up)
    have hz := Lib.hid fun (z : UpW wr.drew) => (Up.trans (Up.refl wr).drew z.up : Up wr z.w)
    haveI := UpW.some_ wr.drew
    have HNE := Lib.hid hne
    have K1 := Lib.hid htk1
    have K2 := Lib.hid htk2
    clear hxx hyy g1 g2 hr1 hr2 htk1 htk2 hne hil hik
    by_cases hxy : x = y
    case neg =>
      have d1 : (((x.toNat : Nat) : Int) != ((y.toNat : Nat) : Int)) = true := by rw [bne_iff_ne]; exact fun e => hxy (UInt8.toNat_inj.1 (by omega))
      have hv : V = false := HNE.out hxy
      subst hv
      clear HNE hxy
      go_wp2_with fail
      refine wp_region_up (by kernel_rfl) (by kernel_rfl) ?_
      repeat (refine wpQuiet_step (fun K hK => ?_); go_simp; refine hK _ ?_; clear hK K)
      refine wpQuiet_nil ?_
      rintro w4 ⟨z, hz4⟩
      have U4 : Hid (Up w w4) := by show Up _ _; rw [hz4]; exact Up.trans HU.out (hz.out z)
      clear hz4 hz k1 k2
      go_wp2
      go_ret
      exact ⟨rfl, U4.out⟩
    subst hxy
    have d1 : (((x.toNat : Nat) : Int) != ((x.toNat : Nat) : Int)) = false := by simp
    have HT2 : Hid (l.take (i + 1) = k.take (i + 1)) := by show _ = _; rw [K1.out, K2.out, HT.out]
    clear HNE
    go_wp2_with fail
    refine wp_region_up (by kernel_rfl) (by kernel_rfl) ?_
    repeat (refine wpQuiet_step (fun K hK => ?_); go_simp; refine hK _ ?_; clear hK K)
    refine wpQuiet_nil ?_
    rintro w4 ⟨z, hz4⟩
    have U4 : Hid (Up w w4) := by show Up _ _; rw [hz4]; exact Up.trans HU.out (hz.out z)
    clear hz4 hz k1 k2
    go_wp2
    exact ⟨⟨i + 1, by omega, by go_num, HT2, U4⟩, by simp [intOf]; omega⟩


/-! ### seals -/
structure SlA where
  farm : Int
  dig : List UInt8
  p : Option Addr
  c : Nat
def slCells (s : SlA) : List Value := [.int .i64 s.farm, .slice s.p s.dig.length s.c]
theorem slCells_len (s : SlA) : (slCells s).length = 2 := rfl
theorem slCells_one (s : SlA) : ∀ u ∈ slCells s, u.oneCell' = true := by intro u hu; simp only [slCells, List.mem_cons, List.not_mem_nil, or_false] at hu; rcases hu with rfl | rfl <;> rfl
structure SlAt (w : World) (s : SlA) : Prop where
  sb : SB w s.p s.dig
  cap : s.dig.length ≤ s.c
  capm : s.c ≤ maxLen
theorem SlAt.up {w w' : World} {s : SlA} (h : SlAt w s) (hu : Up w w') : SlAt w' s := ⟨h.sb.up hu, h.cap, h.capm⟩
def badSl (s : SlA) : Bool := decide (s.farm < 0) || (decide (600 ≤ s.farm) || decide (s.dig.length ≠ 32))

theorem reveal1_calls (s : SlA) (w : World) : Calls Tryd.prog 38 #[.agg (slCells s).toArray] w fun e w' => e = .returned (.bool (badSl s)) ∧ Up w w' := by
  obtain ⟨f, d, p, c⟩ := s
  unfold slCells badSl
  simp only
  obtain ⟨n, hn⟩ : ∃ n, n = d.length := ⟨_, rfl⟩
  rw [← hn]
  clear hn
  by_cases h1 : f < 0
  · have d1 : decide (f < 0) = true := by simpa using h1
    rw [d1, Bool.true_or]
    clear h1
    go_enter Tryd.func38, Tryd.ntmps38
    go_wp2
    go_ret
    exact ⟨rfl, (Up.refl w).alloc _⟩
  have d1 : decide (f < 0) = false := by simpa using h1
  rw [d1, Bool.false_or]
  clear h1
  by_cases h2 : 600 ≤ f
  · have d2 : decide (600 ≤ f) = true := by simpa using h2
    rw [d2, Bool.true_or]
    clear h2
    go_enter Tryd.func38, Tryd.ntmps38
    go_wp2
    go_ret
    exact ⟨rfl, (Up.refl w).alloc _⟩
  have d2 : decide (600 ≤ f) = false := by simpa using h2
  rw [d2, Bool.false_or]
  clear h2
  by_cases h3 : n = 32
  · subst h3
    have d3 : (((32 : Nat) : Int) != 32) = false := by simp
    go_enter Tryd.func38, Tryd.ntmps38
    go_wp2
    go_ret
    exact ⟨rfl, (Up.refl w).alloc _⟩
  have d3 : (((n : Nat) : Int) != 32) = true := by rw [bne_iff_ne]; omega
  have d4 : decide (n ≠ 32) = true := by simpa using h3
  rw [d4]
  clear h3 d4
  go_enter Tryd.func38, Tryd.ntmps38
  go_wp2
  go_ret
  exact ⟨rfl, (Up.refl w).alloc _⟩

def badIdx : List SlA → Nat → Int
  | [], _ => -1
  | s :: r, j => if !badSl s then badIdx r (j + 1) else j
theorem badIdx_neg : ∀ (l : List SlA) (j : Nat), decide (0 ≤ badIdx l j) = !(l.all fun s => !badSl s)
  | [], j => by simp [badIdx]
  | s :: r, j => by
    rw [badIdx, List.all_cons]
    cases h : badSl s
    · simp only [Bool.not_false, ite_true, Bool.true_and]; exact badIdx_neg r (j + 1)
    · simp

set_option maxHeartbeats 1000000 in
theorem indexFunc_calls (p : Option Addr) (n c : Nat) (l : List SlA) (w : World) (hn : n = l.length) (h : RowAt w p 2 slCells l) (hc : n ≤ c) (hcm : c ≤ maxLen) :
    Calls Tryd.prog 53 #[.slice p n c, .func (.func 38) #[] #[]] w fun e w' => e = .returned (.int .i64 (badIdx l 0)) ∧ Up w w' := by
  have HN := Lib.hid hn
  have H := Lib.hid h
  clear hn h
  go_enter Tryd.func53, Tryd.ntmps53
  go_wp2
  go_loopw [4, 8] (fun v4 v8 wq => ∃ (i : Nat), i ≤ n ∧ v8 = .int .i64 i ∧ v4 = .int .i64 0 ∧ Hid (badIdx l 0 = badIdx (l.drop i) i) ∧ Hid (Up w wq)) (fun _ v8 _ => n - (intOf v8).toNat)
  case atStart => exact ⟨0, by omega, rfl, rfl, rfl, Up.refl _⟩
  case round =>
    obtain ⟨i, hi, rfl, rfl, HB, HU⟩ := hrel
    by_cases hlt : i < n
    case neg =>
      have hv : Hid (badIdx l 0 = -1) := by show _ = _; rw [HB.out, List.drop_of_length_le (by rw [← HN.out]; omega)]; rfl
      have d1 : decide ((i : Int) < (n : Int)) = false := by simp; omega
      go_wp2
      go_ret
      exact ⟨by rw [hv.out] <;> rfl, HU.out⟩
    have hi2 : i < l.length := by rw [← HN.out]; exact hlt
    have hb2 := HB.out
    rw [List.drop_eq_getElem_cons hi2, badIdx] at hb2
    obtain ⟨b, o, rfl, hrg⟩ := H.out (by rintro rfl; simp at hi2)
    have g := hrg i hi2
    obtain ⟨x, hxx⟩ : ∃ x, x = l[i] := ⟨_, rfl⟩
    rw [← hxx] at g hb2
    have CX := Lib.hid fun W => reveal1_calls x W
    have HAs : Hid ((slCells x).toArray.size = 2) := rfl
    have G := Lib.hid (show wr.rangeAt b (o + i * 2) (slCells x).toArray.toList from rangeAt_up g HU.out)
    obtain ⟨A, hA⟩ : ∃ A, A = (slCells x).toArray := ⟨_, rfl⟩
    rw [← hA] at CX HAs G
    have HB2 := Lib.hid hb2
    obtain ⟨rb, hrb⟩ : ∃ rb, rb = badSl x := ⟨_, rfl⟩
    rw [← hrb] at HB2 CX
    clear hA g hb2 hrg hxx hrb hi2
    go_wp2_with (refine wpList_load_arr rfl 52 (.tmp 14) rfl b (o + i * 2) rfl A _ G.out rfl rfl (by rw [HAs.out]; rfl) ?_)
    refine (CX.out wr).mono ?_
    rintro e w1 ⟨rfl, u1⟩
    have U1 : Hid (Up w w1) := Up.trans HU.out u1
    clear u1
    cases rb
    case true =>
      have hv : Hid (badIdx l 0 = i) := by show _ = _; rw [HB2.out]; rfl
      go_wp2
      go_ret
      exact ⟨by rw [hv.out] <;> rfl, U1.out⟩
    have HB3 : Hid (badIdx l 0 = badIdx (l.drop (i + 1)) (i + 1)) := by show _ = _; rw [HB2.out]; rfl
    have hib : (i : Int) + 1 ≤ 9223372036854775807 := by unfold maxLen at hcm; omega
    have e1 : IntKind.i64.wrap ((i : Int) + 1) = ((i + 1 : Nat) : Int) := IntWalk.i64_in _ (by omega)
    clear hib
    go_wp2
    exact ⟨⟨i + 1, by omega, rfl, rfl, HB3, U1⟩, by simp [intOf]; omega⟩

set_option maxHeartbeats 1000000 in
theorem containsFunc_calls (p : Option Addr) (n c : Nat) (l : List SlA) (w : World) (hn : n = l.length) (h : RowAt w p 2 slCells l) (hc : n ≤ c) (hcm : c ≤ maxLen) :
    Calls Tryd.prog 37 #[.slice p n c, .func (.func 38) #[] #[]] w fun e w' => e = .returned (.bool (!(l.all fun s => !badSl s))) ∧ Up w w' := by
  have I := Lib.hid (indexFunc_calls p n c l w hn h hc hcm)
  have hb := badIdx_neg l 0
  obtain ⟨r, hr⟩ : ∃ r, r = badIdx l 0 := ⟨_, rfl⟩
  obtain ⟨bb, hbb⟩ : ∃ bb, bb = !(l.all fun s => !badSl s) := ⟨_, rfl⟩
  rw [← hr] at I hb
  rw [← hbb] at hb ⊢
  clear hr hbb hn h
  go_enter Tryd.func37, Tryd.ntmps37
  go_wp2_with fail
  refine I.out.mono ?_
  rintro e w1 ⟨rfl, u1⟩
  have U1 := Lib.hid u1
  clear u1
  go_wp2
  go_ret
  exact ⟨rfl, U1.out⟩


/-! ### slices.Clone of lots -/
theorem eltLot : EltT Tryd.prog 24 61 2 16 := ⟨rfl, _, _, rfl, rfl, by kernel_rfl, by kernel_rfl, by kernel_rfl⟩

theorem OwnR.empty {α : Type} {enc : α → List Value} {E : TypeId} {k : Nat} (w : World) : OwnR (w.alloc (.cells #[] E (0, 0))) w.heap.size E k enc (.slice (some ⟨w.heap.size, 0, none⟩) 0 0) [] :=
  World.ownsRow_made w #[] 0 (Nat.le_refl _) (by unfold maxLen; omega) (by simp)

set_option maxHeartbeats 1000000 in
theorem clone_calls (p : Option Addr) (n c : Nat) (l : List (Int × Int)) (w : World) (hn : n = l.length) (hne : l ≠ []) (hl8 : n ≤ 100) (h : RowAt w p 2 ltEnc l) (hc : n ≤ c) (hcm : c ≤ maxLen) :
    Calls Tryd.prog 41 #[.slice p n c] w fun e w' => ∃ v, e = .returned v ∧ OwnR w' w.heap.size 61 2 ltEnc v l ∧ Up w w' := by
  have HN := Lib.hid hn
  have HNE := Lib.hid hne
  have H := Lib.hid h
  obtain ⟨b, o, rfl, -⟩ := h hne
  have he : ∀ w : World, (binOp .eql 24 (.slice (some ⟨b, o, none⟩) n c) (.slice none 0 0)).run Tryd.prog w = .ok (.bool false) w := fun w => Lib.run_eql_slice_nil w _ 61 (some ⟨b, o, none⟩) n c 0 0 rfl
  clear hn hne h
  go_enter Tryd.func41, Tryd.ntmps41
  go_wp2_with (refine wpList_named ?_; intro W1 hW1; at_builtin; (have hu : Up w W1 := by (rw [hW1]; exact (Up.refl w).alloc _)); (have ho : OwnR W1 w.heap.size 61 2 ltEnc (.slice (some ⟨w.heap.size, 0, none⟩) 0 0) [] := by (rw [hW1]; exact OwnR.empty w)); have HU := Lib.hid hu; have HO := Lib.hid ho; clear hW1 hu ho; refine wpList_appR rfl (.tmp 5) (.tmp 6) eltLot (by omega) rfl rfl w.heap.size _ [] _ n c l rfl rfl HN.out (fun x _ => ltEnc_len x) (fun x _ => ltEnc_one x) HO.out (fun hne => by (obtain ⟨b', o', e', hr'⟩ := H.out hne; exact ⟨b', o', e', fun i hi => rangeAt_up (hr' i hi) HU.out⟩)) (by simp; have := HN.out; omega) HU.out.size ?_; intro p3 m3 c3 w3 o3 b3 g3; rw [List.nil_append] at o3; have O3 := Lib.hid o3; have B3 := Lib.hid b3; clear o3 b3 g3)
  go_ret
  exact ⟨_, rfl, O3.out, Below.trans HU.out B3.out⟩

end Go.Proofs.YtmifpokafaiebaaDoor

namespace Go.Proofs.YtmifpokafaiebaaDoor
open Go Go.RowKit Go.Maps
set_option linter.unusedVariables false
set_option maxRecDepth 100000

def RV (v : Value) : Option (DataW Value × List MemPlace) := some (.held v, [])
/-- block b is a map of at most n entries that gives f -/
def MapL (w : World) (K : TypeId) (b n : Nat) (f : Lit → Option Value) : Prop :=
  ∃ D : DataW Value, w.ownsMap Tryd.prog K RV b n D ∧ ∀ l, WideAt.IsKeyLit l → Maps.has D l = (f l).isSome ∧ ∀ z, D.atKey l (.held z) = .held ((f l).getD z)
theorem MapL.made (w : World) (K : TypeId) : MapL (w.alloc (.map #[] 0)) K w.heap.size 0 (fun _ => none) :=
  ⟨.map [], World.ownsMap_made w _ _ _, fun l _ => ⟨rfl, fun z => rfl⟩⟩
theorem MapL.lt {w : World} {K : TypeId} {b n : Nat} {f : Lit → Option Value} (h : MapL w K b n f) : b < w.heap.size := by
  obtain ⟨D, h1, h2⟩ := h; exact h1.lt
theorem MapL.mono {w : World} {K : TypeId} {b n m : Nat} {f : Lit → Option Value} (h : MapL w K b n f) (hm : n ≤ m) : MapL w K b m f := by
  obtain ⟨D, h1, h2⟩ := h; exact ⟨D, h1.mono hm, h2⟩
theorem MapL.kept {w w' : World} {K : TypeId} {b n : Nat} {f : Lit → Option Value} {row : Option Nat} (h : MapL w K b n f) (hg : w.grownBy w' row) (hne : some b ≠ row) : MapL w' K b n f := by
  obtain ⟨D, h1, h2⟩ := h; exact ⟨D, h1.kept hg hne, h2⟩
theorem MapL.up {w w' : World} {K : TypeId} {b n : Nat} {f : Lit → Option Value} (h : MapL w K b n f) (hu : Up w w') : MapL w' K b n f := h.kept (up_grown hu) (by simp)
theorem MapL.of_block {w w' : World} {K : TypeId} {b n : Nat} {f : Lit → Option Value} (h : MapL w K b n f) (e : w'.heap[b]? = w.heap[b]?) : MapL w' K b n f := by
  obtain ⟨D, ⟨es, clock, hb, r⟩, h2⟩ := h
  exact ⟨D, ⟨es, clock, e.trans hb, r⟩, h2⟩

section
variable {w : World} {ops : Array Oper} {rest : List Oper} {o : Oper} {a : Act} {Q : Exit → Act → World → Prop}
theorem wpList_look (hg : o.guard = none) (m x : Operand) (t : TypeId) (hop : o.op = Op.lookup t m x false)
    (k e : TypeId) (K : Keyed Tryd.prog k) (ht : Tryd.prog.underlying t = some (.map k e)) {z : Value} (hz : (zeroValue e).run Tryd.prog w = .ok z w) (b n : Nat) (f : Lit → Option Value)
    (hm : a.eval m = .map (some b)) (hown : MapL w k b n f) (key : Value) (kl : Lit) (hx : a.eval x = key) (hkey : keyOf Tryd.prog k key = some kl)
    (hK : wpList Tryd.prog ops Q rest (a.put o.dst ((f kl).getD z)) w) :
    wpList Tryd.prog ops Q (o :: rest) a w := by
  refine wpList_plain hg fun K' hK' => ?_
  obtain ⟨D, hD, hf⟩ := hown
  obtain ⟨v, ps, hrun, hv⟩ := hD.lookup K ht hz (zd := .held z) (zp := []) rfl hkey
  rw [(hf kl (K.key hkey)).2 z] at hv
  have e1 : v = (f kl).getD z := by
    have h1 : some (DataW.held v, ([] : List MemPlace)) = some (DataW.held ((f kl).getD z), ps) := hv
    simpa using congrArg (fun o => o.map Prod.fst) h1
  subst e1
  unfold Oper.wp
  simp [execOp, hop, hm, hx, hrun, Result.andThen]
  exact hK' _ _ hK
theorem wpList_look_ok (hg : o.guard = none) (m x : Operand) (t : TypeId) (hop : o.op = Op.lookup t m x true)
    (k e : TypeId) (K : Keyed Tryd.prog k) (ht : Tryd.prog.underlying t = some (.map k e)) {z : Value} (hz : (zeroValue e).run Tryd.prog w = .ok z w) (b n : Nat) (f : Lit → Option Value)
    (hm : a.eval m = .map (some b)) (hown : MapL w k b n f) (key : Value) (kl : Lit) (hx : a.eval x = key) (hkey : keyOf Tryd.prog k key = some kl)
    (hK : wpList Tryd.prog ops Q rest (a.put o.dst (.tuple #[(f kl).getD z, .bool (f kl).isSome])) w) :
    wpList Tryd.prog ops Q (o :: rest) a w := by
  obtain ⟨D, hD, hf⟩ := hown
  refine wpList_lookup_own_ok w hg m x t hop k e K ht RV hz (.held z) [] rfl b n D hm hD key kl hx hkey fun v ps hv => ?_
  rw [(hf kl (K.key hkey)).2 z] at hv
  have e1 : v = (f kl).getD z := by
    have h1 : some (DataW.held v, ([] : List MemPlace)) = some (DataW.held ((f kl).getD z), ps) := hv
    simpa using congrArg (fun o => o.map Prod.fst) h1
  subst e1
  rw [(hf kl (K.key hkey)).1]
  exact hK
open Classical in
theorem wpList_mapPut (hg : o.guard = none) (m x v : Operand) (t : TypeId) (hop : o.op = Op.mapUpdate t m x v)
    (k e : TypeId) (K : Keyed Tryd.prog k) (ht : Tryd.prog.underlying t = some (.map k e)) (b n : Nat) (f : Lit → Option Value)
    (hm : a.eval m = .map (some b)) (hown : MapL w k b n f) (hn : n < maxLen) (key val : Value) (kl : Lit) (hx : a.eval x = key) (hv : a.eval v = val) (hkey : keyOf Tryd.prog k key = some kl)
    (hK : ∀ w', MapL w' k b (n + 1) (fun l => if l = kl then some val else f l) → w.grownBy w' (some b) → wpList Tryd.prog ops Q rest (a.put o.dst undef) w') :
    wpList Tryd.prog ops Q (o :: rest) a w := by
  obtain ⟨D, hD, hf⟩ := hown
  refine wpList_mapUpdate_own w hg m x v t hop k e K ht RV b n D hm hD hn key val kl hx hv hkey (.held val) [] rfl fun w' h1 h2 => hK w' ⟨_, h1, fun l hl => ?_⟩ h2
  have hkl := K.key hkey
  show Maps.has (D.put kl (.held val)) l = (if l = kl then some val else f l).isSome ∧ ∀ z, (D.put kl (.held val)).atKey l (.held z) = .held ((if l = kl then some val else f l).getD z)
  by_cases h : l = kl
  · subst h
    rw [if_pos rfl]
    exact ⟨has_put_same hD.isMap hkl _, fun z => atKey_put_same hD.isMap hkl _ _⟩
  · rw [if_neg h]
    exact ⟨(has_put_other h _).trans (hf l hl).1, fun z => (atKey_put_other h _ _).trans ((hf l hl).2 z)⟩
end

theorem keyedInt : Keyed Tryd.prog 3 := int_keyed (q := .i64) (by kernel_rfl)
theorem keyInt (i : Int) (h1 : -9223372036854775808 ≤ i) (h2 : i ≤ 9223372036854775807) : keyOf Tryd.prog 3 (.int .i64 i) = some (.int .i64 i) := keyOf_int_mk (q := .i64) (by kernel_rfl) (WalkArith.wf_i64 ⟨h1, by omega⟩)

end Go.Proofs.YtmifpokafaiebaaDoor

namespace Go.Proofs.YtmifpokafaiebaaDoor
open Go Go.RowKit Go.Maps
set_option linter.unusedVariables false
set_option maxRecDepth 100000

theorem wpList_look_ok2 {w : World} {ops : Array Oper} {rest : List Oper} {o : Oper} {a : Act} {Q : Exit → Act → World → Prop} (hg : o.guard = none) (m x : Operand) (t : TypeId) (hop : o.op = Op.lookup t m x true)
    (k e : TypeId) (K : Keyed Tryd.prog k) (ht : Tryd.prog.underlying t = some (.map k e)) {z : Value} (hz : (zeroValue e).run Tryd.prog w = .ok z w) (b n : Nat) (f : Lit → Option Value)
    (hm : a.eval m = .map (some b)) (hown : MapL w k b n f) (key : Value) (kl : Lit) (hx : a.eval x = key) (hkey : keyOf Tryd.prog k key = some kl) (v : Value) (ok : Bool) (hv : (f kl).getD z = v) (hok : (f kl).isSome = ok)
    (hK : wpList Tryd.prog ops Q rest (a.put o.dst (.tuple #[v, .bool ok])) w) :
    wpList Tryd.prog ops Q (o :: rest) a w := by
  subst hv hok
  exact wpList_look_ok hg m x t hop k e K ht hz b n f hm hown key kl hx hkey hK

/-! ### opens -/
structure OpA where
  a : OfA
  salt : List UInt8
  sp : Option Addr
  sc : Nat
def opCells (x : OpA) : List Value := ofCells x.a ++ [.slice x.sp x.salt.length x.sc]
theorem opCells_len (x : OpA) : (opCells x).length = 7 := rfl
theorem opCells_one (x : OpA) : ∀ u ∈ opCells x, u.oneCell' = true := by
  intro u hu
  rcases List.mem_append.1 hu with h | h
  · exact ofCells_one _ u h
  · simp only [List.mem_singleton] at h; subst h; rfl
structure OpAt (w : World) (x : OpA) : Prop where
  lts : LtsAt w x.a
  sb : SB w x.sp x.salt
  cap : x.salt.length ≤ x.sc
  capm : x.sc ≤ maxLen
theorem OpAt.up {w w' : World} {x : OpA} (h : OpAt w x) (hu : Up w w') : OpAt w' x := ⟨h.lts.up hu, h.sb.up hu, h.cap, h.capm⟩
def opKey (x : OpA) : Option (Int × List UInt8) := if msgE x.a.o x.salt = 0 then some (x.a.o.farm, cmtB x.a.o x.salt) else none
def slKey (s : SlA) : Int × List UInt8 := (s.farm, s.dig)
def openF (st : List (Option OpA)) : Lit → Option Value
  | .int .i64 i => if 0 ≤ i then (st[i.toNat]?).join.map fun x => .agg (ofCells x.a).toArray else none
  | _ => none
theorem openF_at (st : List (Option OpA)) (i : Nat) : openF st (.int .i64 i) = (st[i]?).join.map fun x => .agg (ofCells x.a).toArray := by
  simp [openF]
open Classical in
theorem openF_set (st : List (Option OpA)) (i : Nat) (x : OpA) (h : i < st.length) : (fun l => if l = .int .i64 (i : Int) then some (.agg (ofCells x.a).toArray) else openF st l) = openF (st.set i (some x)) := by
  funext l
  by_cases hl : l = .int .i64 (i : Int)
  · subst hl
    rw [if_pos rfl, openF_at, List.getElem?_set_self h]; rfl
  · rw [if_neg hl]
    unfold openF
    split
    · rename_i j
      by_cases hj : 0 ≤ j
      · have hne : i ≠ j.toNat := fun e => hl (by rw [e, Int.toNat_of_nonneg hj])
        rw [if_pos hj, if_pos hj, List.getElem?_set_ne hne]
      · rw [if_neg hj, if_neg hj]
    · rfl
theorem openF_nil (n : Nat) : (fun _ => none : Lit → Option Value) = openF (List.replicate n none) := by
  funext l
  unfold openF
  split
  · rename_i j
    by_cases hj : 0 ≤ j
    · rw [if_pos hj, List.getElem?_replicate]; split <;> rfl
    · rw [if_neg hj]
  · rfl

theorem zeroOffer (w : World) : (zeroValue 26).run Tryd.prog w = .ok (.agg #[.int .i64 0, .int .i64 0, .int .i64 0, .int .i64 0, .int .i64 0, .slice none 0 0]) w := by kernel_rfl

theorem World.grownBy_row {w w' : World} {row : Option Nat} (h : w.grownBy w' none) : w.grownBy w' row := ⟨h.os, h.tape, h.output, h.size, fun k hk _ => h.block k hk (by simp)⟩

theorem fillK_some2 {κ α : Type} [DecidableEq κ] (ks : List κ) (st : List (Option α)) (k k0 : κ) (x y : α) (i : Nat) (h1 : ks[i]? = some k0) (h2 : st[i]? = some (some y)) :
    fillK (ks.drop i) (st.drop i) k x = some y :: fillK (ks.drop (i + 1)) (st.drop (i + 1)) k x := by
  obtain ⟨h3, h4⟩ := List.getElem?_eq_some_iff.1 h1
  exact fillK_drop_some ks st k x y i h3 h2
theorem fillK_ne2 {κ α : Type} [DecidableEq κ] (ks : List κ) (st : List (Option α)) (k k0 : κ) (x : α) (i : Nat) (h1 : ks[i]? = some k0) (h2 : st[i]? = some none) (h : k0 ≠ k) :
    fillK (ks.drop i) (st.drop i) k x = none :: fillK (ks.drop (i + 1)) (st.drop (i + 1)) k x := by
  obtain ⟨h3, h4⟩ := List.getElem?_eq_some_iff.1 h1
  exact fillK_drop_ne ks st k x i h3 h2 (by rw [h4]; exact h)
theorem fillK_eq2 {κ α : Type} [DecidableEq κ] (ks : List κ) (st : List (Option α)) (k : κ) (x : α) (i : Nat) (h1 : ks[i]? = some k) (h2 : st[i]? = some none) :
    st.take i ++ fillK (ks.drop i) (st.drop i) k x = st.set i (some x) := by
  obtain ⟨h3, h4⟩ := List.getElem?_eq_some_iff.1 h1
  obtain ⟨h5, h6⟩ := List.getElem?_eq_some_iff.1 h2
  rw [fillK_drop_eq ks st k x i h3 h2 h4, List.set_eq_take_append_cons_drop, if_pos h5]

set_option maxHeartbeats 8000000 in
theorem use_calls (x : OpA) (sls : List SlA) (st : List (Option OpA)) (p : Option Addr) (n c bs bo bm N : Nat) (w : World) (hst : st.length = n) (hn : n = sls.length) (hn64 : n ≤ 64) (hN : N ≤ 1000)
    (hs : w.heap[bs]? = some (.cells #[.slice p n c] 34 (0, 0))) (ho : w.heap[bo]? = some (.cells #[.map (some bm)] 73 (0, 0)))
    (hm : MapL w 3 bm N (openF st)) (hr : RowAt w p 2 slCells sls) (hsl : ∀ s ∈ sls, SlAt w s ∧ s.dig.length = 32) (hc : n ≤ c) (hcm : c ≤ maxLen) (hx : OpAt w x) (ht : Tabs w) :
    Calls Tryd.prog 39 #[.agg (opCells x).toArray, .pointer (some ⟨bs, 0, none⟩), .pointer (some ⟨bo, 0, none⟩)] w
      fun e w' => e = .returned (.tuple #[]) ∧ MapL w' 3 bm (N + 1) (openF (useK opKey (sls.map slKey) st x)) ∧ w.grownBy w' (some bm) := by
  have CM := Lib.hid fun W (hu : Up w W) => ocommit_calls x.a x.salt x.sp x.sc W (hx.lts.up hu) (hx.sb.up hu) (ht.up hu)
  have HAs : Hid ((ofCells x.a).toArray.size = 6) := rfl
  have HBs : Hid ((opCells x).toArray.size = 7) := rfl
  have HB1 : Hid ((opCells x).toArray[1]? = some (.int .i64 x.a.o.farm)) := rfl
  have HB6 : Hid ((opCells x).toArray[6]? = some (.slice x.sp x.salt.length x.sc)) := rfl
  have HBA : Hid (∀ j, j < (ofCells x.a).toArray.size → (opCells x).toArray[0 + j]? = (ofCells x.a).toArray[j]?) := fun j hj => by
    have hj6 : j < 6 := hj
    rw [Nat.zero_add]
    obtain rfl | rfl | rfl | rfl | rfl | rfl : j = 0 ∨ j = 1 ∨ j = 2 ∨ j = 3 ∨ j = 4 ∨ j = 5 := by omega
    all_goals rfl
  have HMK := Lib.hid hm
  have HRW := Lib.hid hr
  have HSL := Lib.hid hsl
  have HN := Lib.hid hn
  have HST := Lib.hid hst
  have XS := Lib.hid hs
  have XO := Lib.hid ho
  have HKE : Hid (∀ ee, ee = msgE x.a.o x.salt → (ee ≠ 0 → useK opKey (sls.map slKey) st x = st) ∧ (ee = 0 → useK opKey (sls.map slKey) st x = fillK (sls.map slKey) st (x.a.o.farm, cmtL x.a.o x.salt) x)) := fun ee he => by
    subst he
    refine ⟨fun h => ?_, fun h => ?_⟩
    · unfold useK opKey; rw [if_neg h]
    · unfold useK opKey cmtL; rw [if_pos h, if_pos h]
  have HDL : Hid (msgE x.a.o x.salt = 0 → (cmtL x.a.o x.salt).length = 32) := fun h => by rw [cmtL, if_pos h]; exact cmtB_length _ _
  obtain ⟨A, hA⟩ : ∃ A, A = (ofCells x.a).toArray := ⟨_, rfl⟩
  obtain ⟨B, hB⟩ : ∃ B, B = (opCells x).toArray := ⟨_, rfl⟩
  obtain ⟨ee, hee⟩ : ∃ ee, ee = msgE x.a.o x.salt := ⟨_, rfl⟩
  obtain ⟨D, hD⟩ : ∃ D, D = cmtL x.a.o x.salt := ⟨_, rfl⟩
  obtain ⟨sn, hsn⟩ : ∃ sn, sn = x.salt.length := ⟨_, rfl⟩
  obtain ⟨F, hF⟩ : ∃ F, F = useK opKey (sls.map slKey) st x := ⟨_, rfl⟩
  have HK2 := HKE.out ee hee
  have HAX : Hid (A = (ofCells x.a).toArray) := hA
  rw [← hA, ← hD, ← hee, ← hsn] at CM
  rw [← hA] at HAs HBA
  rw [← hB] at HBs HB1 HB6 HBA ⊢
  rw [← hsn] at HB6
  rw [← hF, ← hD] at HK2
  rw [← hee, ← hD] at HDL
  rw [← hF]
  have HK := Lib.hid HK2
  obtain ⟨fm, hfm⟩ : ∃ fm, fm = x.a.o.farm := ⟨_, rfl⟩
  rw [← hfm] at HB1 HK
  clear hA hB hee hD hsn hF hm hr hsl hn hst hs ho hx ht HKE hfm HK2
  go_enter Tryd.func39, Tryd.ntmps39
  obtain ⟨bx, hbx⟩ : ∃ bx, bx = w.heap.size := ⟨_, rfl⟩
  have u1 : Up w (w.alloc (.cells B 44 (0, 0))) := (Up.refl w).alloc _
  have x1 : (w.alloc (.cells B 44 (0, 0))).heap[bx]? = some (.cells B 44 (0, 0)) := heap_new hbx
  obtain ⟨W1, hW1⟩ : ∃ W1, W1 = w.alloc (.cells B 44 (0, 0)) := ⟨_, rfl⟩
  rw [← hW1] at u1 x1
  have U1 := Lib.hid u1
  have X1 := Lib.hid x1
  have HBX := Lib.hid hbx
  have HW1 := Lib.hid hW1
  have l6 : W1.cell? ⟨bx, 6, none⟩ = some (.slice x.sp sn x.sc) := (cell_of_row W1 bx 6 _ _ _ x1).trans HB6.out
  clear u1 x1 hW1 hbx
  go_wp2_with (first | ((with_reducible show wpList _ _ _ (Oper.mk _ (Op.load _ (Operand.tmp 11)) _ _ _ _ :: _) _ _); rw [← HW1.out, ← HBX.out]; refine wpList_load_arr rfl 26 (.tmp 11) rfl bx 0 rfl A _ (rangeAt_part X1.out 0 A HBA.out) rfl rfl (by rw [HAs.out]; rfl) ?_))
  refine (CM.out W1 U1.out).mono ?_
  rintro e W2 ⟨pd, cd, rfl, sbd, hc1, hc2, u2⟩
  have U2 : Hid (Up w W2) := Up.trans U1.out u2
  have X2 := Lib.hid ((u2.block _ (lt_of_block X1.out)).trans X1.out)
  have SBD := Lib.hid sbd
  have HC1 := Lib.hid hc1
  have HC2 := Lib.hid hc2
  clear u2 sbd hc1 hc2 CM X1 U1 HW1 l6
  by_cases h0 : ee = 0
  case neg =>
    have d0 : (ee != 0) = true := by rw [bne_iff_ne]; exact h0
    have HF : Hid (F = st) := HK.out.1 h0
    clear h0 HK HDL
    go_wp2_with fail
    refine bodyPost_ret (results_none rfl _ _ _) rfl ?_
    exact ⟨rfl, by rw [HF.out]; exact (HMK.out.up U2.out).mono (Nat.le_succ _), World.grownBy_row (up_grown U2.out)⟩
  subst h0
  have d0 : ((0 : Int) != 0) = false := by simp
  have HF : Hid (F = fillK (sls.map slKey) st (fm, D) x) := HK.out.2 rfl
  have hdl := HDL.out rfl
  rw [hdl] at HC1 ⊢
  have HDD := Lib.hid hdl
  clear HK HDL hdl
  have q1 : W2.cell? ⟨bs, 0, none⟩ = some (.slice p n c) := by rw [cell_of_row W2 bs 0 _ _ _ ((U2.out.block _ (lt_of_block XS.out)).trans XS.out)]; rfl
  go_wp2_with fail
  clear q1
  go_loopw [22] (fun v22 wq => ∃ i : Nat, i ≤ n ∧ v22 = .int .i64 i ∧ Hid (F = st.take i ++ fillK ((sls.map slKey).drop i) (st.drop i) (fm, D) x) ∧ Hid (Up W2 wq)) (fun v22 _ => n - (intOf v22).toNat)
  case atStart => exact ⟨0, by omega, rfl, by show F = _; rw [HF.out]; simp, Up.refl _⟩
  case round =>
    obtain ⟨i, hi, rfl, HB, HU⟩ := hrel
    by_cases hlt : i < n
    case neg =>
      have hin : i = n := by omega
      have HFS : Hid (F = st) := by
        show F = st
        rw [HB.out, List.drop_of_length_le (by rw [List.length_map, ← HN.out]; omega), List.drop_of_length_le (by rw [HST.out]; omega), List.take_of_length_le (by rw [HST.out]; omega), fillK, List.append_nil]
      go_wp2
      go_end0
      exact ⟨rfl, by rw [HFS.out]; exact (HMK.out.up (Up.trans U2.out HU.out)).mono (Nat.le_succ _), World.grownBy_row (up_grown (Up.trans U2.out HU.out))⟩
    have his : i < sls.length := by rw [← HN.out]; exact hlt
    have hit : i < st.length := by rw [HST.out]; exact hlt
    have hik : i < (sls.map slKey).length := by rw [List.length_map]; exact his
    obtain ⟨b, o, rfl, hpr⟩ := HRW.out (by rintro rfl; simp at his)
    have UT := Up.trans U2.out HU.out
    have g := rangeAt_up (hpr i his) UT
    have hsi := (HSL.out _ (List.getElem_mem his)).1
    have hs32 := (HSL.out _ (List.getElem_mem his)).2
    have hki : (sls.map slKey)[i]'hik = slKey sls[i] := List.getElem_map _
    obtain ⟨s, hs⟩ : ∃ s, s = sls[i] := ⟨_, rfl⟩
    rw [← hs] at g hsi hki hs32
    obtain ⟨so, hso⟩ : ∃ so, so = st[i] := ⟨_, rfl⟩
    have hsg : st[i]? = some so := by rw [hso]; exact List.getElem?_eq_getElem hit
    obtain ⟨sf, sdg, sp, sc⟩ := s
    have hki2 : (sls.map slKey)[i]? = some (sf, sdg) := by rw [List.getElem?_eq_getElem hik, hki]; rfl
    obtain ⟨dn, hdn⟩ : ∃ dn, dn = sdg.length := ⟨_, rfl⟩
    have G : Hid (wr.rangeAt b (o + i * 2) (#[Value.int .i64 sf, Value.slice sp dn sc] : Array Value).toList) := by
      show wr.rangeAt _ _ _; rw [hdn]; exact g
    have SI : Hid (SB w sp sdg) := hsi.sb
    have SC1 : Hid (dn ≤ sc) := by show _ ≤ _; rw [hdn]; exact hsi.cap
    have SC2 : Hid (sc ≤ maxLen) := hsi.capm
    have MW : Hid (MapL wr 3 bm N (openF st)) := HMK.out.up UT
    have XOW : Hid (wr.heap[bo]? = some (.cells #[.map (some bm)] 73 (0, 0))) := (UT.block _ (lt_of_block XO.out)).trans XO.out
    have XBW : Hid (wr.heap[bx]? = some (.cells B 44 (0, 0))) := (HU.out.block _ (lt_of_block X2.out)).trans X2.out
    have SDW : Hid (SB wr pd D) := SBD.out.up HU.out
    have UTW : Hid (Up w wr) := UT
    have HDN := Lib.hid hdn
    have HD32 : Hid (dn = 32) := by show _ = _; rw [hdn]; exact hs32
    have HKI := Lib.hid hki2
    have HSG := Lib.hid hsg
    have HIT := Lib.hid hit
    have HIK := Lib.hid hik
    have HI64 : Hid (i < 1000) := by show _ < _; omega
    have TAK : Hid (st.take (i + 1) = st.take i ++ [so]) := by show _ = _; rw [List.take_succ_eq_append_getElem hit, hso]
    clear hki hki2 hsg hso hdn hs hs32 hsi g hpr UT his hit hik
    cases so with
    | some y =>
      have HB2 : Hid (F = st.take (i + 1) ++ fillK ((sls.map slKey).drop (i + 1)) (st.drop (i + 1)) (fm, D) x) := by
        show F = _
        rw [HB.out, fillK_some2 _ _ _ _ _ y i HKI.out HSG.out, TAK.out, List.append_assoc]; rfl
      obtain ⟨Y, hY⟩ : ∃ Y, Y = (ofCells y.a).toArray := ⟨_, rfl⟩
      have LK : Hid (openF st (.int .i64 (i : Int)) = some (.agg Y)) := by show _ = _; rw [openF_at, HSG.out, hY]; rfl
      have YS : Hid (Y.size = 6) := by show _ = _; rw [hY]; rfl
      have YC : Hid (Y.all (·.oneCell') = true) := by
        show _ = _
        rw [hY, Array.all_eq_true_iff_forall_mem]
        intro v hv
        exact ofCells_one _ v (by simpa using hv)
      clear hY HB TAK HKI HSG
      have q2 : ∀ O, (wr.alloc O).cell? ⟨bo, 0, none⟩ = some (.map (some bm)) := fun O => cell_up (by rw [cell_of_row wr bo 0 _ _ _ XOW.out]; rfl) ((Up.refl wr).alloc O)
      have UR : Hid (Up W2 wr) := HU
      go_wp2_with (first | ((with_reducible show wpList _ _ _ (Oper.mk _ (Op.load _ (Operand.tmp 25)) _ _ _ _ :: _) _ _); refine wpList_load_arr rfl 52 (.tmp 25) rfl b (o + i * 2) rfl #[Value.int .i64 sf, Value.slice sp dn sc] _ G.out rfl rfl (by rfl) ?_) | ((with_reducible show wpList _ _ _ (Oper.mk _ (Op.lookup _ _ _ _) _ _ _ _ :: _) _ _); refine wpList_look_ok2 rfl (.tmp 28) (.tmp 29) 73 rfl 3 26 keyedInt rfl (zeroOffer _) bm N (openF st) rfl (MW.out.up ((Up.refl wr).alloc _)) _ (.int .i64 (i : Int)) rfl (keyInt _ (by omega) (by have := HI64.out; omega)) (.agg Y) true (by rw [LK.out]; rfl) (by rw [LK.out]; rfl) ?_) | ((with_reducible show wpList _ _ _ (Oper.mk _ (Op.store _ (Operand.tmp 8) (Operand.tmp 31)) _ _ _ _ :: _) _ _); refine wpList_store_row rfl 26 (.tmp 8) (.tmp 31) rfl _ Y rfl rfl 26 _ (heap_new (by simp)) (by rw [YS.out]; rfl) (by rw [YS.out]; rfl) YC.out ?_; refine wpList_named ?_; intro W3 hW3; have u3 : Up wr W3 := (by rw [hW3]; exact below_setRow (((Up.refl wr).alloc _).alloc _) (Nat.le_succ _) _); have U3 := Lib.hid u3; clear hW3 u3))
      exact ⟨⟨i + 1, by omega, by go_num, HB2, Up.trans UR.out U3.out⟩, by simp [intOf]; omega⟩
    | none =>
      have LK : Hid (openF st (.int .i64 (i : Int)) = none) := by show _ = _; rw [openF_at, HSG.out]; rfl
      have q2 : ∀ O, (wr.alloc O).cell? ⟨bo, 0, none⟩ = some (.map (some bm)) := fun O => cell_up (by rw [cell_of_row wr bo 0 _ _ _ XOW.out]; rfl) ((Up.refl wr).alloc O)
      have q3 : ∀ O O', ((wr.alloc O).alloc O').cell? ⟨bx, 1, none⟩ = some (.int .i64 fm) := fun O O' => cell_up ((cell_of_row wr bx 1 _ _ _ XBW.out).trans HB1.out) (((Up.refl wr).alloc O).alloc O')
      have UR : Hid (Up W2 wr) := HU
      by_cases hf : sf = fm
      case neg =>
        have d3 : (sf == fm) = false := by rw [beq_eq_false_iff_ne]; exact hf
        have HB2 : Hid (F = st.take (i + 1) ++ fillK ((sls.map slKey).drop (i + 1)) (st.drop (i + 1)) (fm, D) x) := by
          show F = _
          rw [HB.out, fillK_ne2 _ _ _ _ x i HKI.out HSG.out (fun e => hf (by injection e)), TAK.out, List.append_assoc]; rfl
        clear HB TAK HKI HSG hf
        go_wp2_with (first | ((with_reducible show wpList _ _ _ (Oper.mk _ (Op.load _ (Operand.tmp 25)) _ _ _ _ :: _) _ _); refine wpList_load_arr rfl 52 (.tmp 25) rfl b (o + i * 2) rfl #[Value.int .i64 sf, Value.slice sp dn sc] _ G.out rfl rfl (by rfl) ?_) | ((with_reducible show wpList _ _ _ (Oper.mk _ (Op.lookup _ _ _ _) _ _ _ _ :: _) _ _); refine wpList_look_ok2 rfl (.tmp 28) (.tmp 29) 73 rfl 3 26 keyedInt rfl (zeroOffer _) bm N (openF st) rfl (MW.out.up ((Up.refl wr).alloc _)) _ (.int .i64 (i : Int)) rfl (keyInt _ (by omega) (by have := HI64.out; omega)) (.agg #[.int .i64 0, .int .i64 0, .int .i64 0, .int .i64 0, .int .i64 0, .slice none 0 0]) false (by rw [LK.out]; rfl) (by rw [LK.out]; rfl) ?_))
        exact ⟨⟨i + 1, by omega, by go_num, HB2, Up.trans UR.out (((Up.refl _).alloc _).alloc _)⟩, by simp [intOf]; omega⟩
      subst hf
      have d3 : (sf == sf) = true := by simp
      have EQ := Lib.hid fun W (hu : Up wr W) => sequal_calls sp pd dn 32 sc cd sdg D W HDN.out HDD.out.symm (by rw [HD32.out]; omega) SC1.out SC2.out HC1.out HC2.out (SI.out.up (Up.trans UTW.out hu)) (SDW.out.up hu)
      by_cases hd : sdg = D
      case neg =>
        have HB2 : Hid (F = st.take (i + 1) ++ fillK ((sls.map slKey).drop (i + 1)) (st.drop (i + 1)) (sf, D) x) := by
          show F = _
          rw [HB.out, fillK_ne2 _ _ _ _ x i HKI.out HSG.out (fun e => hd (by injection e)), TAK.out, List.append_assoc]; rfl
        have hdd : decide (sdg = D) = false := decide_eq_false hd
        rw [hdd] at EQ
        clear HB TAK HKI HSG hd hdd
        go_wp2_with (first | ((with_reducible show wpList _ _ _ (Oper.mk _ (Op.load _ (Operand.tmp 25)) _ _ _ _ :: _) _ _); refine wpList_load_arr rfl 52 (.tmp 25) rfl b (o + i * 2) rfl #[Value.int .i64 sf, Value.slice sp dn sc] _ G.out rfl rfl (by rfl) ?_) | ((with_reducible show wpList _ _ _ (Oper.mk _ (Op.lookup _ _ _ _) _ _ _ _ :: _) _ _); refine wpList_look_ok2 rfl (.tmp 28) (.tmp 29) 73 rfl 3 26 keyedInt rfl (zeroOffer _) bm N (openF st) rfl (MW.out.up ((Up.refl wr).alloc _)) _ (.int .i64 (i : Int)) rfl (keyInt _ (by omega) (by have := HI64.out; omega)) (.agg #[.int .i64 0, .int .i64 0, .int .i64 0, .int .i64 0, .int .i64 0, .slice none 0 0]) false (by rw [LK.out]; rfl) (by rw [LK.out]; rfl) ?_))
        refine (EQ.out _ (((Up.refl wr).alloc _).alloc _)).mono ?_
        rintro e w4 ⟨rfl, u4⟩
        have U4 : Hid (Up wr w4) := Up.trans (((Up.refl wr).alloc _).alloc _) u4
        clear u4 q2 q3
        go_wp2_with fail
        exact ⟨⟨i + 1, by omega, by go_num, HB2, Up.trans UR.out U4.out⟩, by simp [intOf]; omega⟩
      subst hd
      have HFS : Hid (F = st.set i (some x)) := by
        show F = _
        rw [HB.out, fillK_eq2 _ _ _ x i HKI.out HSG.out]
      have hdd : decide (sdg = sdg) = true := by simp
      rw [hdd] at EQ
      clear HB TAK HKI HSG hdd HF
      go_wp2_with (first | ((with_reducible show wpList _ _ _ (Oper.mk _ (Op.load _ (Operand.tmp 25)) _ _ _ _ :: _) _ _); refine wpList_load_arr rfl 52 (.tmp 25) rfl b (o + i * 2) rfl #[Value.int .i64 sf, Value.slice sp dn sc] _ G.out rfl rfl (by rfl) ?_) | ((with_reducible show wpList _ _ _ (Oper.mk _ (Op.lookup _ _ _ _) _ _ _ _ :: _) _ _); refine wpList_look_ok2 rfl (.tmp 28) (.tmp 29) 73 rfl 3 26 keyedInt rfl (zeroOffer _) bm N (openF st) rfl (MW.out.up ((Up.refl wr).alloc _)) _ (.int .i64 (i : Int)) rfl (keyInt _ (by omega) (by have := HI64.out; omega)) (.agg #[.int .i64 0, .int .i64 0, .int .i64 0, .int .i64 0, .int .i64 0, .slice none 0 0]) false (by rw [LK.out]; rfl) (by rw [LK.out]; rfl) ?_))
      refine (EQ.out _ (((Up.refl wr).alloc _).alloc _)).mono ?_
      rintro e w4 ⟨rfl, u4⟩
      have U4 : Hid (Up wr w4) := Up.trans (((Up.refl wr).alloc _).alloc _) u4
      have q4 : w4.cell? ⟨bo, 0, none⟩ = some (.map (some bm)) := cell_up (by rw [cell_of_row wr bo 0 _ _ _ XOW.out]; rfl) U4.out
      have XB4 : Hid (w4.heap[bx]? = some (.cells B 44 (0, 0))) := (U4.out.block _ (lt_of_block XBW.out)).trans XBW.out
      have M4 : Hid (MapL w4 3 bm N (openF st)) := MW.out.up U4.out
      clear u4 q2 q3
      go_wp2_with (first | ((with_reducible show wpList _ _ _ (Oper.mk _ (Op.load _ (Operand.tmp 51)) _ _ _ _ :: _) _ _); refine wpList_load_arr rfl 26 (.tmp 51) rfl bx 0 rfl A _ (rangeAt_part XB4.out 0 A HBA.out) rfl rfl (by rw [HAs.out]; rfl) ?_) | ((with_reducible show wpList _ _ _ (Oper.mk _ (Op.mapUpdate _ _ _ _) _ _ _ _ :: _) _ _); refine wpList_mapPut rfl (.tmp 49) (.tmp 50) (.tmp 52) 73 rfl 3 26 keyedInt rfl bm N (openF st) rfl M4.out (by unfold maxLen; omega) _ (.agg A) (.int .i64 (i : Int)) rfl rfl (keyInt _ (by omega) (by have := HI64.out; omega)) ?_; intro w5 m5 g5; rw [HAX.out, openF_set st i x HIT.out] at m5; have M5 := Lib.hid m5; have G5 := Lib.hid g5; clear m5 g5))
      refine bodyPost_ret (results_none rfl _ _ _) rfl ?_
      exact ⟨rfl, by rw [HFS.out]; exact M5.out, (World.grownBy_row (up_grown (Up.trans UTW.out U4.out))).trans G5.out⟩

end Go.Proofs.YtmifpokafaiebaaDoor

namespace Go.Proofs.YtmifpokafaiebaaDoor
open Go Go.RowKit Go.Maps
set_option linter.unusedVariables false
set_option maxRecDepth 100000

theorem wpList_look2 {w : World} {ops : Array Oper} {rest : List Oper} {o : Oper} {a : Act} {Q : Exit → Act → World → Prop} (hg : o.guard = none) (m x : Operand) (t : TypeId) (hop : o.op = Op.lookup t m x false)
    (k e : TypeId) (K : Keyed Tryd.prog k) (ht : Tryd.prog.underlying t = some (.map k e)) {z : Value} (hz : (zeroValue e).run Tryd.prog w = .ok z w) (b n : Nat) (f : Lit → Option Value)
    (hm : a.eval m = .map (some b)) (hown : MapL w k b n f) (key : Value) (kl : Lit) (hx : a.eval x = key) (hkey : keyOf Tryd.prog k key = some kl) (v : Value) (hv : (f kl).getD z = v)
    (hK : wpList Tryd.prog ops Q rest (a.put o.dst v) w) :
    wpList Tryd.prog ops Q (o :: rest) a w := by
  subst hv
  exact wpList_look hg m x t hop k e K ht hz b n f hm hown key kl hx hkey hK

/-! ### plain -/
def revSt (sls : List SlA) (xs : List OpA) : List (Option OpA) := stK opKey (sls.map slKey) xs
def revE (sls : List SlA) (xs : List OpA) : Int := if 64 < sls.length ∨ 64 < xs.length then 2 else if (sls.all fun s => !badSl s) = true then 0 else 440
def opNo (x : OpA) : Int := x.a.o.no
def revO (sls : List SlA) (xs : List OpA) : List Of := if revE sls xs = 0 then (outs opNo [] (revSt sls xs)).map fun x => x.a.o else []
def revS (sls : List SlA) (xs : List OpA) : List Int := if revE sls xs = 0 then (sil 0 (revSt sls xs)).map (fun n : Nat => (n : Int)) else []
/-- what Reveal gives back -/
def RetR (w : World) (L : List Of) (N : List Int) (err : Int) (e : Ending) (w' : World) : Prop :=
  ∃ p c q d, ∃ A : List OfA, e = .returned (.tuple #[.slice p L.length c, .slice q N.length d, .int .i64 err]) ∧ A.map OfA.o = L ∧ RowAt w' p 6 ofCells A ∧ (∀ a ∈ A, LtsAt w' a) ∧ L.length ≤ c ∧ c ≤ maxLen ∧
    RowAt w' q 1 iEnc N ∧ N.length ≤ d ∧ d ≤ maxLen ∧ Up w w'
theorem RetR.nil {w w' : World} {err : Int} (hu : Up w w') : RetR w [] [] err (.returned (.tuple #[.slice none 0 0, .slice none 0 0, .int .i64 err])) w' :=
  ⟨none, 0, none, 0, [], rfl, rfl, fun h => absurd rfl h, fun a h => (by cases h), Nat.le_refl _, by unfold maxLen; omega, fun h => absurd rfl h, Nat.le_refl _, by unfold maxLen; omega, hu⟩

def numF (seen : List Int) : Lit → Option Value
  | .int .i64 i => if i ∈ seen then some (.bool true) else none
  | _ => none
theorem numF_at (seen : List Int) (i : Int) : (numF seen (.int .i64 i)).getD (.bool false) = .bool (decide (i ∈ seen)) := by
  show (if i ∈ seen then some (Value.bool true) else none).getD (.bool false) = _
  by_cases h : i ∈ seen
  · rw [if_pos h, decide_eq_true h]; rfl
  · rw [if_neg h, decide_eq_false h]; rfl
theorem numF_nil : (fun _ => none : Lit → Option Value) = numF [] := by
  funext l; unfold numF; split <;> simp
open Classical in
theorem numF_put (seen : List Int) (i : Int) : (fun l => if l = .int .i64 i then some (.bool true) else numF seen l) = numF (i :: seen) := by
  funext l
  by_cases hl : l = .int .i64 i
  · subst hl; rw [if_pos rfl]; simp [numF]
  · rw [if_neg hl]
    unfold numF
    split
    · rename_i j
      have : j ≠ i := fun e => hl (by rw [e])
      simp [this]
    · rfl
theorem zeroBool (w : World) : (zeroValue 4).run Tryd.prog w = .ok (.bool false) w := by kernel_rfl

theorem OwnR.isR {W : World} {base : Nat} {E : TypeId} {k : Nat} {α : Type} {enc : α → List Value} {v : Value} {l : List α} (h : OwnR W base E k enc v l) : ∀ g, v.ownBlock = some g → ∃ cur, W.heap[g]? = some (.cells cur E (0, 0)) := by
  intro g hg
  rcases h.2 with ⟨rfl, hn⟩ | ⟨g', cap, cur, rfl, hbg, hg', h2⟩
  · cases hg
  · injection hg with hg; subst hg; exact ⟨cur, hg'⟩
theorem MapL.isM {w : World} {K : TypeId} {b n : Nat} {f : Lit → Option Value} (h : MapL w K b n f) : ∃ es c, w.heap[b]? = some (.map es c) := by
  obtain ⟨D, ⟨es, clock, hb, r⟩, h2⟩ := h; exact ⟨es, clock, hb⟩
/-- a store into a map leaves rows -/
theorem OwnR.put {W W' : World} {base : Nat} {E : TypeId} {k : Nat} {α : Type} {enc : α → List Value} {v : Value} {l : List α} {K : TypeId} {b n : Nat} {f : Lit → Option Value} (h : OwnR W base E k enc v l) (hm : MapL W K b n f) (hg : W.grownBy W' (some b)) : OwnR W' base E k enc v l :=
  h.kept fun g hgb => hg.block g (h.lt g hgb) fun e => by
    obtain ⟨cur, hc⟩ := h.isR g hgb
    obtain ⟨es, c, hb⟩ := hm.isM
    injection e with e; subst e
    rw [hb] at hc; cases hc
/-- append onto a row leaves maps and rows of other elements -/
theorem MapL.app {W W' : World} {base : Nat} {E : TypeId} {k : Nat} {α : Type} {enc : α → List Value} {v v' : Value} {l : List α} {K : TypeId} {b n : Nat} {f : Lit → Option Value} (hm : MapL W K b n f) (h : OwnR W base E k enc v l) (hg : Grow W W' v v') : MapL W' K b n f :=
  hm.kept hg.grown fun e => by
    obtain ⟨cur, hc⟩ := h.isR b e.symm
    obtain ⟨es, c, hb⟩ := hm.isM
    rw [hb] at hc; cases hc
theorem OwnR.app {W W' : World} {base base2 : Nat} {E E2 : TypeId} {k k2 : Nat} {α β : Type} {enc : α → List Value} {enc2 : β → List Value} {v v' v2 : Value} {l : List α} {l2 : List β} (h2 : OwnR W base2 E2 k2 enc2 v2 l2) (h : OwnR W base E k enc v l) (hg : Grow W W' v v') (hE : E2 ≠ E) : OwnR W' base2 E2 k2 enc2 v2 l2 :=
  h2.kept fun g hgb => hg.grown.block g (h2.lt g hgb) fun e => by
    obtain ⟨cur, hc⟩ := h.isR g e.symm
    obtain ⟨cur2, hc2⟩ := h2.isR g hgb
    rw [hc] at hc2
    injection hc2 with hc2
    injection hc2 with h1 h2
    exact hE h2.symm

theorem sls_ok {l : List SlA} (h : (l.all fun s => !badSl s) = true) : ∀ s ∈ l, s.dig.length = 32 := fun s hs => by
  have := List.all_eq_true.1 h s hs
  unfold badSl at this
  simp only [Bool.not_eq_true', Bool.or_eq_false_iff, decide_eq_false_iff_not] at this
  omega

theorem eltOff : EltT Tryd.prog 37 26 6 64 := ⟨rfl, _, _, rfl, rfl, by kernel_rfl, by kernel_rfl, by kernel_rfl⟩

set_option maxHeartbeats 8000000 in
theorem reveal_bad (p q : Option Addr) (n c m d : Nat) (sls : List SlA) (xs : List OpA) (w : World) (hn : n = sls.length) (hm : m = xs.length) (hb : revE sls xs ≠ 0) (hc : n ≤ c) (hcm : c ≤ maxLen) (hd : m ≤ d) (hdm : d ≤ maxLen)
    (hr : RowAt w p 2 slCells sls) : Calls Tryd.prog 19 #[.slice p n c, .slice q m d] w (RetR w [] [] (revE sls xs)) := by
  unfold revE at hb ⊢
  rw [← hn, ← hm] at hb ⊢
  have HR := Lib.hid hr
  have HN := Lib.hid hn
  clear hn hm hr
  by_cases h1 : 64 < n
  · have d1 : decide ((64 : Int) < (n : Int)) = true := by simp; omega
    rw [if_pos (.inl h1)]
    clear hb h1
    go_enter Tryd.func19, Tryd.ntmps19
    go_wp2_with fail
    go_ret3
    exact RetR.nil ((Up.refl w).alloc _)
  have d1 : decide ((64 : Int) < (n : Int)) = false := by simp; omega
  by_cases h2 : 64 < m
  · have d2 : decide ((64 : Int) < (m : Int)) = true := by simp; omega
    rw [if_pos (.inr h2)]
    clear hb h1 h2
    go_enter Tryd.func19, Tryd.ntmps19
    go_wp2_with fail
    go_ret3
    exact RetR.nil ((Up.refl w).alloc _)
  have d2 : decide ((64 : Int) < (m : Int)) = false := by simp; omega
  rw [if_neg (by rintro (h | h) <;> omega)] at hb ⊢
  have ha : (sls.all fun s => !badSl s) = false := by
    cases h : (sls.all fun s => !badSl s)
    · rfl
    · rw [if_pos h] at hb; exact absurd rfl hb
  rw [if_neg (by rw [ha]; simp)]
  have CF := Lib.hid fun W (hu : Up w W) => containsFunc_calls p n c sls W HN.out (fun hne => by
    obtain ⟨b, o, e, hi⟩ := HR.out hne
    exact ⟨b, o, e, fun i h => rangeAt_up (hi i h) hu⟩) hc hcm
  rw [ha] at CF
  clear hb h1 h2 ha HR HN
  go_enter Tryd.func19, Tryd.ntmps19
  go_wp2_with fail
  refine (CF.out _ ((Up.refl w).alloc _)).mono ?_
  rintro e w1 ⟨rfl, u1⟩
  have U1 : Hid (Up w w1) := Up.trans ((Up.refl w).alloc _) u1
  clear u1
  go_wp2_with fail
  go_ret3
  exact RetR.nil U1.out

end Go.Proofs.YtmifpokafaiebaaDoor

namespace Go.Proofs.YtmifpokafaiebaaDoor
open Go Go.RowKit Go.Maps
set_option linter.unusedVariables false
set_option maxRecDepth 100000

theorem foldl_take {α β : Type} (f : β → α → β) (b : β) (l : List α) (i : Nat) (h : i < l.length) : (l.take (i + 1)).foldl f b = f ((l.take i).foldl f b) l[i] := by
  rw [List.take_succ_eq_append_getElem h, List.foldl_append]; rfl
theorem RowAt.kept2 {α : Type} {enc : α → List Value} {k : Nat} {w w' : World} {p : Option Addr} {l : List α} (h : RowAt w p k enc l) (hu : Up w w') : RowAt w' p k enc l := fun hne => by
  obtain ⟨b, o, e, hi⟩ := h hne
  exact ⟨b, o, e, fun i h => rangeAt_up (hi i h) hu⟩
/-- a map's block turns that is new -/
theorem up_map {w W W' : World} {b : Nat} (h : Up w W) (hg : W.grownBy W' (some b)) (hb : w.heap.size ≤ b) : Up w W' :=
  ⟨hg.os.trans h.os, hg.tape.trans h.tape, hg.output.trans h.output, Nat.le_trans h.size hg.size, fun i hi => (hg.block i (Nat.lt_of_lt_of_le hi h.size) (by intro e; injection e with e; omega)).trans (h.block i hi)⟩

/-- what Reveal carries while it gathers -/
structure RevI (W : World) (bm bn m i : Nat) (ST : List (Option OpA)) (seen : List Int) (v4 v5 : Value) (A : List OfA) (Ns : List Int) : Prop where
  mo : MapL W 3 bm m (openF ST)
  mn : MapL W 3 bn i (numF seen)
  r4 : OwnR W bn 26 6 ofCells v4 A
  r5 : OwnR W bn 3 1 iEnc v5 Ns
  rl : ∀ a ∈ A, OwnR W bn 61 2 ltEnc (.slice a.p a.o.lots.length a.c) a.o.lots
structure RevB (N bm bn : Nat) (v4 v5 : Value) (A : List OfA) : Prop where
  bm : bm < N
  bn : bn < N
  l4 : ∀ g, v4.ownBlock = some g → g < N
  l5 : ∀ g, v5.ownBlock = some g → g < N
  ll : ∀ a ∈ A, ∀ g, (Value.slice a.p a.o.lots.length a.c).ownBlock = some g → g < N
section
variable {W W' : World} {bm bn m i : Nat} {ST : List (Option OpA)} {seen : List Int} {v4 v5 : Value} {A : List OfA} {Ns : List Int}
theorem RevI.bounds (h : RevI W bm bn m i ST seen v4 v5 A Ns) : RevB W.heap.size bm bn v4 v5 A := ⟨h.mo.lt, h.mn.lt, h.r4.lt, h.r5.lt, fun a ha => (h.rl a ha).lt⟩
theorem RevI.kept {N : Nat} (h : RevI W bm bn m i ST seen v4 v5 A Ns) (hb : RevB N bm bn v4 v5 A) (hk : ∀ g, g < N → W'.heap[g]? = W.heap[g]?) : RevI W' bm bn m i ST seen v4 v5 A Ns :=
  ⟨h.mo.of_block (hk _ hb.bm), h.mn.of_block (hk _ hb.bn), h.r4.kept fun g hg => hk g (hb.l4 g hg), h.r5.kept fun g hg => hk g (hb.l5 g hg), fun a ha => (h.rl a ha).kept fun g hg => hk g (hb.ll a ha g hg)⟩
theorem RevI.up (h : RevI W bm bn m i ST seen v4 v5 A Ns) (hu : Up W W') : RevI W' bm bn m i ST seen v4 v5 A Ns := h.kept h.bounds fun g hg => hu.block g hg
theorem RevI.next (h : RevI W bm bn m i ST seen v4 v5 A Ns) : RevI W bm bn m (i + 1) ST seen v4 v5 A Ns := ⟨h.mo, h.mn.mono (Nat.le_succ _), h.r4, h.r5, h.rl⟩
theorem RevI.put {seen' : List Int} (h : RevI W bm bn m i ST seen v4 v5 A Ns) (hg : W.grownBy W' (some bn)) (hn : MapL W' 3 bn (i + 1) (numF seen')) (hne : bm ≠ bn) : RevI W' bm bn m (i + 1) ST seen' v4 v5 A Ns :=
  ⟨h.mo.kept hg (fun e => hne (by injection e)), hn, h.r4.put h.mn hg, h.r5.put h.mn hg, fun a ha => (h.rl a ha).put h.mn hg⟩
theorem RevI.app5 {v' : Value} {l' : List Int} (h : RevI W bm bn m i ST seen v4 v5 A Ns) (hg : Grow W W' v5 v') (ho : OwnR W' bn 3 1 iEnc v' l') : RevI W' bm bn m i ST seen v4 v' A l' :=
  ⟨h.mo.app h.r5 hg, h.mn.app h.r5 hg, h.r4.app h.r5 hg (by decide), ho, fun a ha => (h.rl a ha).app h.r5 hg (by decide)⟩
theorem RevI.app4 {v' : Value} {a0 : OfA} (h : RevI W bm bn m i ST seen v4 v5 A Ns) (hg : Grow W W' v4 v') (ho : OwnR W' bn 26 6 ofCells v' (A ++ [a0])) (hl : OwnR W bn 61 2 ltEnc (.slice a0.p a0.o.lots.length a0.c) a0.o.lots) : RevI W' bm bn m i ST seen v' v5 (A ++ [a0]) Ns :=
  ⟨h.mo.app h.r4 hg, h.mn.app h.r4 hg, ho, h.r5.app h.r4 hg (by decide), fun a ha => by
    rcases List.mem_append.1 ha with ha | ha
    · exact (h.rl a ha).app h.r4 hg (by decide)
    · rw [List.mem_singleton.1 ha]; exact hl.app h.r4 hg (by decide)⟩
end
theorem below_map {base : Nat} {W W' : World} {b : Nat} (hg : W.grownBy W' (some b)) (hb : base ≤ b) (hs : base ≤ W.heap.size) : Below base W W' :=
  ⟨hg.os, hg.tape, hg.output, hg.size, fun i hi => hg.block i (by omega) (by intro e; injection e with e; omega)⟩

set_option maxHeartbeats 16000000 in
theorem reveal_good (p q : Option Addr) (n c m d : Nat) (sls : List SlA) (xs : List OpA) (w : World) (hn : n = sls.length) (hm : m = xs.length) (hb : revE sls xs = 0) (hc : n ≤ c) (hcm : c ≤ maxLen) (hd : m ≤ d) (hdm : d ≤ maxLen)
    (hr : RowAt w p 2 slCells sls) (hsl : ∀ s ∈ sls, SlAt w s) (hx : RowAt w q 7 opCells xs) (hxa : ∀ x ∈ xs, OpAt w x) (ht : Tabs w) : Calls Tryd.prog 19 #[.slice p n c, .slice q m d] w
      (RetR w ((outs opNo [] (revSt sls xs)).map fun x => x.a.o) ((sil 0 (revSt sls xs)).map (fun n : Nat => (n : Int))) 0) := by
  obtain ⟨LF, hLF⟩ : ∃ LF, LF = (outs opNo [] (revSt sls xs)).map fun x => x.a.o := ⟨_, rfl⟩
  obtain ⟨NF, hNF⟩ : ∃ NF, NF = (sil 0 (revSt sls xs)).map (fun n : Nat => (n : Int)) := ⟨_, rfl⟩
  rw [← hLF, ← hNF]
  unfold revE at hb
  rw [← hn, ← hm] at hb
  have h1 : ¬ (64 < n ∨ 64 < m) := fun h => by rw [if_pos h] at hb; omega
  rw [if_neg h1] at hb
  have ha : (sls.all fun s => !badSl s) = true := by
    cases h : (sls.all fun s => !badSl s)
    · rw [if_neg (by rw [h]; simp)] at hb; omega
    · rfl
  have hn64 : n ≤ 64 := by omega
  have hm64 : m ≤ 64 := by omega
  have d1 : decide ((64 : Int) < (n : Int)) = false := by simp; omega
  have d2 : decide ((64 : Int) < (m : Int)) = false := by simp; omega
  have HR := Lib.hid hr
  have HN := Lib.hid hn
  have HM := Lib.hid hm
  have HX := Lib.hid hx
  have HXA := Lib.hid hxa
  have HT := Lib.hid ht
  have HSL : Hid (∀ s ∈ sls, SlAt w s ∧ s.dig.length = 32) := fun s hs => ⟨hsl s hs, sls_ok ha s hs⟩
  have CF := Lib.hid fun W (hu : Up w W) => containsFunc_calls p n c sls W HN.out (HR.out.kept2 hu) hc hcm
  rw [ha] at CF
  have HLF := Lib.hid hLF
  have HNF := Lib.hid hNF
  have hmm := @run_makeMap Tryd.prog
  clear hb h1 ha hr hn hm hx hxa ht hsl hLF hNF
  go_enter Tryd.func19, Tryd.ntmps19
  go_wp2_with fail
  obtain ⟨bs, hbs⟩ : ∃ bs, bs = w.heap.size := ⟨_, rfl⟩
  obtain ⟨W1, hW1⟩ : ∃ W1, W1 = w.alloc (.cells #[.slice p n c] 34 (0, 0)) := ⟨_, rfl⟩
  have u1 : Up w W1 := by rw [hW1]; exact (Up.refl w).alloc _
  have x1 : W1.heap[bs]? = some (.cells #[.slice p n c] 34 (0, 0)) := by rw [hW1]; exact heap_new hbs
  rw [← hW1, ← hbs]
  refine (CF.out W1 u1).mono ?_
  rintro e W2 ⟨rfl, u2⟩
  have U2 : Hid (Up w W2) := Up.trans u1 u2
  have X2 := Lib.hid ((u2.block _ (lt_of_block x1)).trans x1)
  have HBS := Lib.hid hbs
  clear u1 x1 u2 hW1 hbs CF
  go_wp2_with fail
  refine wp_named ?_
  intro W3 hW3
  obtain ⟨bm, hbm⟩ : ∃ bm, bm = W2.heap.size := ⟨_, rfl⟩
  rw [← hbm] at hW3 ⊢
  have u3 : Up W2 W3 := by rw [hW3]; exact ((Up.refl W2).alloc _).alloc _
  have m3 : MapL W3 3 bm 0 (openF (List.replicate n none)) := by
    rw [← openF_nil, hW3, hbm]
    exact (MapL.made W2 3).up ((Up.refl _).alloc _)
  have o3 : W3.heap[bm + 1]? = some (.cells #[.map (some bm)] 73 (0, 0)) := by rw [hW3]; exact heap_new (by simp [hbm])
  obtain ⟨ks, hks⟩ : ∃ ks, ks = sls.map slKey := ⟨_, rfl⟩
  have U3 : Hid (Up w W3) := Up.trans U2.out u3
  have M3 := Lib.hid m3
  have O3 := Lib.hid o3
  have X3 := Lib.hid ((u3.block _ (lt_of_block X2.out)).trans X2.out)
  have HBM : Hid (w.heap.size ≤ bm) := by show _ ≤ _; rw [hbm]; exact U2.out.size
  have HBSM : Hid (bs < bm) := by show _ < _; rw [hbm]; exact lt_of_block X2.out
  have HKS := Lib.hid hks
  have HBN : Hid (bm + 2 ≤ W3.heap.size) := by show _ ≤ _; rw [hW3, hbm]; simp
  clear hW3 u3 m3 o3 hbm hks U2 X2 HBS
  go_loopw [29] (fun v29 wq => ∃ k : Nat, k ≤ m ∧ v29 = .int .i64 k ∧ Hid (MapL wq 3 bm k (openF ((xs.take k).foldl (useK opKey ks) (List.replicate n none)))) ∧ Hid (W3.grownBy wq (some bm))) (fun v29 _ => m - (intOf v29).toNat)
  case atStart => exact ⟨0, by omega, rfl, M3, ⟨rfl, rfl, rfl, Nat.le_refl _, fun _ _ _ => rfl⟩⟩
  case round =>
    obtain ⟨k, hk, rfl, MK, GK⟩ := hrel
    have UK : Hid (Up w wr) := up_map U3.out GK.out HBM.out
    by_cases hlt : k < m
    case pos =>
      have hkx : k < xs.length := by rw [← HM.out]; exact hlt
      obtain ⟨b, o, rfl, hpr⟩ := HX.out (by rintro rfl; simp at hkx)
      have g := rangeAt_up (hpr k hkx) UK.out
      have hxk := HXA.out _ (List.getElem_mem hkx)
      have hfold := foldl_take (useK opKey ks) (List.replicate n none) xs k hkx
      obtain ⟨x, hxx⟩ : ∃ x, x = xs[k] := ⟨_, rfl⟩
      rw [← hxx] at g hxk hfold
      obtain ⟨ST, hST⟩ : ∃ ST, ST = (xs.take k).foldl (useK opKey ks) (List.replicate n none) := ⟨_, rfl⟩
      rw [← hST] at MK hfold
      have hSTl : ST.length = n := by rw [hST, foldl_useK_length, List.length_replicate]
      obtain ⟨B, hB⟩ : ∃ B, B = (opCells x).toArray := ⟨_, rfl⟩
      have hBs : B.size = 7 := by rw [hB]; rfl
      have hBc : B.all (·.oneCell') = true := by
        rw [hB, Array.all_eq_true_iff_forall_mem]
        intro v hv
        exact opCells_one _ v (by simpa using hv)
      have UC : Hid (∀ W, Up wr W → Calls Tryd.prog 39 #[.agg B, .pointer (some ⟨bs, 0, none⟩), .pointer (some ⟨bm + 1, 0, none⟩)] W
          fun e w' => e = .returned (.tuple #[]) ∧ MapL w' 3 bm (k + 1) (openF ((xs.take (k + 1)).foldl (useK opKey ks) (List.replicate n none))) ∧ W.grownBy w' (some bm)) := fun W hu => by
        have hw : Up w W := Up.trans UK.out hu
        have e1 : ∀ j, j < W3.heap.size → j ≠ bm → W.heap[j]? = W3.heap[j]? := fun j hj hne => (hu.block j (Nat.lt_of_lt_of_le hj GK.out.size)).trans (GK.out.block j hj (fun e => by injection e with e; exact hne e))
        have := use_calls x sls ST p n c bs (bm + 1) bm k W hSTl HN.out hn64 (by omega) ((e1 _ (lt_of_block X3.out) (by have := HBSM.out; omega)).trans X3.out) ((e1 _ (lt_of_block O3.out) (by omega)).trans O3.out) (MK.out.up hu) (HR.out.kept2 hw) (fun s hs => ⟨(HSL.out s hs).1.up hw, (HSL.out s hs).2⟩) hc hcm (hxk.up hw) (HT.out.up hw)
        rw [← hB, ← HKS.out, ← hfold] at this
        exact this
      have G : Hid (wr.rangeAt b (o + k * 7) B.toList) := by show wr.rangeAt _ _ _; rw [hB]; exact g
      have HBs := Lib.hid hBs
      have HBc := Lib.hid hBc
      clear hB hBs hBc hSTl hST hfold hxx hxk g hpr hkx MK
      go_wp2_with (first | ((with_reducible show wpList _ _ _ (Oper.mk _ (Op.load _ (Operand.tmp 31)) _ _ _ _ :: _) _ _); refine wpList_load_arr rfl 44 (.tmp 31) rfl b (o + k * 7) rfl B _ G.out rfl rfl (by rw [HBs.out]; rfl) ?_) | ((with_reducible show wpList _ _ _ (Oper.mk _ (Op.store _ (Operand.tmp 10) (Operand.tmp 32)) _ _ _ _ :: _) _ _); refine wpList_store_row rfl 44 (.tmp 10) (.tmp 32) rfl _ B rfl rfl 44 _ (heap_new rfl) (by rw [HBs.out]; rfl) (by rw [HBs.out]; rfl) HBc.out ?_; refine wpList_named ?_; intro W5 hW5; have u5 : Up wr W5 := (by rw [hW5]; exact below_setRow ((Up.refl wr).alloc _) (Nat.le_refl _) _); have x5 : W5.heap[wr.heap.size]? = some (.cells B 44 (0, 0)) := (by rw [hW5]; exact setRow_heap _ _ _ _ _ _ (heap_new rfl)); have U5 := Lib.hid u5; have X5 := Lib.hid x5; clear hW5 u5 x5) | ((with_reducible show wpList _ _ _ (Oper.mk _ (Op.load _ (Operand.tmp 10)) _ _ _ _ :: _) _ _); refine wpList_load_arr rfl 44 (.tmp 10) rfl wr.heap.size 0 rfl B _ (rangeAt_row X5.out) rfl rfl (by rw [HBs.out]; rfl) ?_))
      refine (UC.out _ U5.out).mono ?_
      rintro e w6 ⟨rfl, m6, g6⟩
      have M6 := Lib.hid m6
      have G6 : Hid (W3.grownBy w6 (some bm)) := GK.out.trans ((World.grownBy_row (up_grown U5.out)).trans g6)
      clear m6 g6
      go_wp2_with fail
      exact ⟨⟨k + 1, by omega, by go_num, M6, G6⟩, by simp [intOf]; omega⟩
    have hkm : m = k := by omega
    subst hkm
    have hst : (xs.take m).foldl (useK opKey ks) (List.replicate n none) = revSt sls xs := by
      rw [List.take_of_length_le (by rw [← HM.out]; omega), revSt, stK, HKS.out, List.length_map, ← HN.out]
    rw [hst] at MK
    have STL : Hid ((revSt sls xs).length = n) := by show _ = _; rw [revSt, stK_length, List.length_map, ← HN.out]
    have STF : Hid (∀ i y, (revSt sls xs)[i]? = some (some y) → y ∈ xs ∧ msgE y.a.o y.salt = 0) := fun i y h => by
      obtain ⟨h1, k, h2, -⟩ := stK_from _ _ _ _ _ h
      refine ⟨h1, ?_⟩
      unfold opKey at h2
      by_cases hm : msgE y.a.o y.salt = 0
      · exact hm
      · rw [if_neg hm] at h2; cases h2
    obtain ⟨ST, hST⟩ : ∃ ST, ST = revSt sls xs := ⟨_, rfl⟩
    rw [← hST] at MK STL STF
    have HLF2 : Hid (LF = (outs opNo [] ST).map fun x => x.a.o) := by show _ = _; rw [hST]; exact HLF.out
    have HNF2 : Hid (NF = (sil 0 ST).map (fun n : Nat => (n : Int))) := by show _ = _; rw [hST]; exact HNF.out
    obtain ⟨W6, hW6⟩ : ∃ W6, W6 = wr := ⟨_, rfl⟩
    subst hW6
    have e1 : ∀ j, j < W3.heap.size → j ≠ bm → W6.heap[j]? = W3.heap[j]? := fun j hj hne => GK.out.block j hj (fun e => by injection e with e; exact hne e)
    have X6 : Hid (W6.heap[bs]? = some (.cells #[.slice p n c] 34 (0, 0))) := (e1 _ (lt_of_block X3.out) (by have := HBSM.out; omega)).trans X3.out
    have O6 : Hid (W6.heap[bm + 1]? = some (.cells #[.map (some bm)] 73 (0, 0))) := (e1 _ (lt_of_block O3.out) (by omega)).trans O3.out
    have HBN6 : Hid (bm + 2 ≤ W6.heap.size) := Nat.le_trans HBN.out GK.out.size
    have q1 : ∀ O, (W6.alloc O).cell? ⟨bs, 0, none⟩ = some (.slice p n c) := fun O => cell_up (by rw [cell_of_row W6 bs 0 _ _ _ X6.out]; rfl) ((Up.refl W6).alloc O)
    clear hst hST e1 HLF HNF GK M3 O3 X3 U3 HBN hlt hk
    go_wp2_with fail
    refine wp_named ?_
    intro W7 hW7
    obtain ⟨bn, hbn⟩ : ∃ bn, bn = W6.heap.size := ⟨_, rfl⟩
    rw [← hbn]
    have u7 : Up W6 W7 := by rw [hW7]; exact (Up.refl W6).alloc _
    have i7 : RevI W7 bm bn m 0 ST [] (.slice none 0 0) (.slice none 0 0) [] [] := ⟨MK.out.up u7, by rw [← numF_nil, hW7, hbn]; exact MapL.made W6 3, OwnR.nil, OwnR.nil, fun a ha => by cases ha⟩
    have U7 : Hid (Up w W7) := Up.trans UK.out u7
    have O7 : Hid (W7.heap[bm + 1]? = some (.cells #[.map (some bm)] 73 (0, 0))) := (u7.block _ (lt_of_block O6.out)).trans O6.out
    have I7 := Lib.hid i7
    have HBB : Hid (bm + 2 ≤ bn) := by show _ ≤ _; rw [hbn]; exact HBN6.out
    have HWB : Hid (w.heap.size ≤ bn) := by show _ ≤ _; rw [hbn]; exact UK.out.size
    have HNS : Hid (bn < W7.heap.size) := i7.mn.lt
    clear q1 hW7 hbn u7 i7 UK MK X6 O6 HBN6
    go_loopw [4, 5, 40] (fun v4 v5 v40 wq => ∃ (i : Nat) (A : List OfA) (Ns seen : List Int), i ≤ n ∧ v40 = .int .i64 i ∧ Hid (LF = A.map OfA.o ++ (outs opNo seen (ST.drop i)).map fun x => x.a.o) ∧ Hid (NF = Ns ++ (sil i (ST.drop i)).map (fun n : Nat => (n : Int))) ∧ Hid (A.length ≤ i ∧ Ns.length ≤ i) ∧ Hid (RevI wq bm bn m i ST seen v4 v5 A Ns) ∧ Hid (Below bn W7 wq)) (fun _ _ v40 _ => n - (intOf v40).toNat)
    case atStart => exact ⟨0, [], [], [], by omega, rfl, HLF2, HNF2, ⟨Nat.le_refl _, Nat.le_refl _⟩, I7, Below.refl _ _⟩
    case round =>
      obtain ⟨i, A, Ns, seen, hi, rfl, HL, HNN, HLE, HI, HU⟩ := hrel
      by_cases hlt : i < n
      case neg =>
        have hin : i = n := by omega
        have hlf : A.map OfA.o = LF := by rw [HL.out, List.drop_of_length_le (by rw [STL.out]; omega)]; simp [outs]
        have hnf : Ns = NF := by rw [HNN.out, List.drop_of_length_le (by rw [STL.out]; omega)]; simp [sil]
        obtain ⟨p4, c4, h41, h42, h43, h44, -⟩ := HI.out.r4.form (fun x _ => ofCells_len x)
        obtain ⟨p5, c5, h51, h52, h53, h54, -⟩ := HI.out.r5.form (fun x _ => iEnc_len x)
        subst h41 h51
        have UF : Hid (Up w wr) := Below.trans U7.out (HU.out.mono HWB.out)
        have hLT : ∀ a ∈ A, LtsAt wr a := fun a ha => by
          obtain ⟨pa, ca, h1, h2, h3, h4, -⟩ := (HI.out.rl a ha).form (fun x _ => ltEnc_len x)
          injection h1 with h1 _ h5
          subst h1 h5
          exact ⟨h4, h2, h3⟩
        subst hnf hlf
        have R4 := Lib.hid h44
        have R5 := Lib.hid h54
        have RL := Lib.hid hLT
        clear h44 h54 hLT HLF2 HNF2 I7 HL HNN HI hi hlt
        go_wp2_with fail
        go_ret3
        exact ⟨p4, c4, p5, c5, A, by rw [List.length_map] <;> rfl, rfl, R4.out, RL.out, by rw [List.length_map]; exact h42, h43, R5.out, h52, h53, UF.out⟩
      have hit : i < ST.length := by rw [STL.out]; exact hlt
      have hdr := List.drop_eq_getElem_cons hit
      obtain ⟨so, hso⟩ : ∃ so, so = ST[i] := ⟨_, rfl⟩
      have hsg : ST[i]? = some so := by rw [hso]; exact List.getElem?_eq_getElem hit
      rw [← hso] at hdr
      have HSG := Lib.hid hsg
      have HDR := Lib.hid hdr
      have HI64 : Hid (i < 1000) := by show _ < _; omega
      have q7 : wr.cell? ⟨bm + 1, 0, none⟩ = some (.map (some bm)) := by rw [cell_of_row wr (bm + 1) 0 _ _ _ ((HU.out.block _ (by have := HBB.out; omega)).trans O7.out)]; rfl
      have HBS : Hid (bn < wr.heap.size) := HI.out.mn.lt
      clear hdr hsg hso hit
      cases so with
      | none =>
        have LK : Hid (openF ST (.int .i64 (i : Int)) = none) := by show _ = _; rw [openF_at, HSG.out]; rfl
        have HL2 : Hid (LF = A.map OfA.o ++ (outs opNo seen (ST.drop (i + 1))).map fun x => x.a.o) := by show _ = _; rw [HL.out, HDR.out, outs]
        have HN2 : Hid (NF = (Ns ++ [(i : Int)]) ++ (sil (i + 1) (ST.drop (i + 1))).map (fun n : Nat => (n : Int))) := by show _ = _; rw [HNN.out, HDR.out, sil]; simp
        have NI : Hid (Ns.length ≤ 1000) := by show _ ≤ _; have := HLE.out; omega
        clear HDR HSG HL HNN
        go_wp2_with (first | ((with_reducible show wpList _ _ _ (Oper.mk _ (Op.lookup _ _ (Operand.tmp 45) _) _ _ _ _ :: _) _ _); refine wpList_look_ok2 rfl (.tmp 44) (.tmp 45) 73 rfl 3 26 keyedInt rfl (zeroOffer _) bm m (openF ST) rfl HI.out.mo _ (.int .i64 (i : Int)) rfl (keyInt _ (by omega) (by have := HI64.out; omega)) (.agg #[.int .i64 0, .int .i64 0, .int .i64 0, .int .i64 0, .int .i64 0, .slice none 0 0]) false (by rw [LK.out]; rfl) (by rw [LK.out]; rfl) ?_) | (refine wpList_named ?_; intro W8 hW8; at_builtin; (have u8 : Up wr W8 := by (rw [hW8]; exact ((Up.refl wr).alloc _).alloc _)); (have r8 : RowAt W8 (some ⟨wr.heap.size + 1, 0, none⟩) 1 iEnc [(i : Int)] := rowAt_block (D := #[.int .i64 (i : Int)]) (fun _ _ => rfl) rfl (by (rw [hW8]; exact heap_new (by simp)))); have U8 := Lib.hid u8; have R8 := Lib.hid r8; clear hW8 u8 r8; refine wpList_appR rfl (.tmp 52) (.tmp 54) eltInt (by omega) rfl rfl bn _ Ns _ 1 1 [(i : Int)] rfl rfl rfl (fun x _ => iEnc_len x) (fun x _ => iEnc_one x) (HI.out.up U8.out).r5 R8.out (by have := NI.out; simp; omega) (Nat.le_trans (Nat.le_of_lt HBS.out) U8.out.size) ?_; intro p9 m9 c9 W9 o9 b9 g9; have I9 : Hid (RevI W9 bm bn m i ST seen u4 (.slice p9 m9 c9) A (Ns ++ [(i : Int)])) := (HI.out.up U8.out).app5 g9 o9; have B9 : Hid (Below bn W7 W9) := (HU.out.trans (U8.out.mono (Nat.le_of_lt HBS.out))).trans b9; clear o9 b9 g9))
        exact ⟨⟨i + 1, A, Ns ++ [(i : Int)], seen, by omega, by go_num, HL2, HN2, ⟨by have := HLE.out; omega, by have := HLE.out; simp; omega⟩, I9.out.next, B9⟩, by simp [intOf]; omega⟩
      | some y =>
        obtain ⟨hyx, hye⟩ := STF.out i y HSG.out
        have hyo := (msgE_ok hye).1
        have hyl := (HXA.out y hyx).lts
        obtain ⟨⟨yo, yp, yc⟩, ysalt, ysp, ysc⟩ := y
        simp only at hyo hyl
        obtain ⟨ym, hym⟩ : ∃ ym, ym = yo.lots.length := ⟨_, rfl⟩
        have LK : Hid (openF ST (.int .i64 (i : Int)) = some (.agg #[.int .i64 yo.no, .int .i64 yo.farm, .int .i64 yo.price, .int .i64 yo.lo, .int .i64 yo.hi, .slice yp ym yc])) := by show _ = _; rw [openF_at, HSG.out, hym]; rfl
        have HYM := Lib.hid hym
        have HYO := Lib.hid hyo
        have HYR : Hid (RowAt w yp 2 ltEnc yo.lots) := hyl.row
        have HYC : Hid (ym ≤ yc) := by show _ ≤ _; rw [hym]; exact hyl.cap
        have HYM2 : Hid (yc ≤ maxLen) := hyl.capm
        have HN2 : Hid (NF = Ns ++ (sil (i + 1) (ST.drop (i + 1))).map (fun n : Nat => (n : Int))) := by show _ = _; rw [HNN.out, HDR.out, sil]
        clear hyx hye hyo hyl hym HNN HSG
        by_cases hse : yo.no ∈ seen
        case pos =>
          have HL2 : Hid (LF = A.map OfA.o ++ (outs opNo seen (ST.drop (i + 1))).map fun x => x.a.o) := by
            have hmem : opNo ⟨⟨yo, yp, yc⟩, ysalt, ysp, ysc⟩ ∈ seen := hse
            show _ = _; rw [HL.out, HDR.out, outs, if_pos hmem]
          have NS : Hid ((numF seen (.int .i64 yo.no)).getD (.bool false) = .bool true) := by show _ = _; rw [numF_at, decide_eq_true hse]
          clear HDR HL hse
          go_wp2_with (first | ((with_reducible show wpList _ _ _ (Oper.mk _ (Op.lookup _ _ (Operand.tmp 45) _) _ _ _ _ :: _) _ _); refine wpList_look_ok2 rfl (.tmp 44) (.tmp 45) 73 rfl 3 26 keyedInt rfl (zeroOffer _) bm m (openF ST) rfl HI.out.mo _ (.int .i64 (i : Int)) rfl (keyInt _ (by omega) (by have := HI64.out; omega)) (.agg #[.int .i64 yo.no, .int .i64 yo.farm, .int .i64 yo.price, .int .i64 yo.lo, .int .i64 yo.hi, .slice yp ym yc]) true (by rw [LK.out]; rfl) (by rw [LK.out]; rfl) ?_) | ((with_reducible show wpList _ _ _ (Oper.mk _ (Op.lookup _ _ (Operand.tmp 59) _) _ _ _ _ :: _) _ _); refine wpList_look2 rfl (.tmp 57) (.tmp 59) 77 rfl 3 4 keyedInt rfl (zeroBool _) bn i (numF seen) rfl (HI.out.up ((Up.refl wr).alloc _)).mn _ (.int .i64 yo.no) rfl (keyInt _ (by have := HYO.out.no; omega) (by have := HYO.out.no; omega)) (.bool true) NS.out ?_))
          exact ⟨⟨i + 1, A, Ns, seen, by omega, by go_num, HL2, HN2, ⟨by have := HLE.out; omega, by have := HLE.out; omega⟩, (HI.out.up ((Up.refl wr).alloc _)).next, HU.out.trans (((Up.refl wr).alloc _).mono (Nat.le_of_lt HBS.out))⟩, by simp [intOf]; omega⟩
        have HL2 : Hid (LF = (A.map OfA.o ++ [yo]) ++ (outs opNo (yo.no :: seen) (ST.drop (i + 1))).map fun x => x.a.o) := by
          have hmem : ¬ opNo ⟨⟨yo, yp, yc⟩, ysalt, ysp, ysc⟩ ∈ seen := hse
          show _ = _; rw [HL.out, HDR.out, outs, if_neg hmem]; simp [opNo]
        have NS : Hid ((numF seen (.int .i64 yo.no)).getD (.bool false) = .bool false) := by show _ = _; rw [numF_at, decide_eq_false hse]
        have AI : Hid (A.length ≤ 1000) := by show _ ≤ _; have := HLE.out; omega
        clear HDR HL hse
        go_wp2_with (first | ((with_reducible show wpList _ _ _ (Oper.mk _ (Op.lookup _ _ (Operand.tmp 45) _) _ _ _ _ :: _) _ _); refine wpList_look_ok2 rfl (.tmp 44) (.tmp 45) 73 rfl 3 26 keyedInt rfl (zeroOffer _) bm m (openF ST) rfl HI.out.mo _ (.int .i64 (i : Int)) rfl (keyInt _ (by omega) (by have := HI64.out; omega)) (.agg #[.int .i64 yo.no, .int .i64 yo.farm, .int .i64 yo.price, .int .i64 yo.lo, .int .i64 yo.hi, .slice yp ym yc]) true (by rw [LK.out]; rfl) (by rw [LK.out]; rfl) ?_) | ((with_reducible show wpList _ _ _ (Oper.mk _ (Op.lookup _ _ (Operand.tmp 59) _) _ _ _ _ :: _) _ _); refine wpList_named ?_; intro W8 hW8; (have u8 : Up wr W8 := by (rw [hW8]; exact (Up.refl wr).alloc _)); (have x8 : W8.heap[wr.heap.size]? = some (.cells #[.int .i64 yo.no, .int .i64 yo.farm, .int .i64 yo.price, .int .i64 yo.lo, .int .i64 yo.hi, .slice yp ym yc] 26 (0, 0)) := by (rw [hW8]; exact heap_new rfl)); (have c0 : W8.cell? ⟨wr.heap.size, 0, none⟩ = some (.int .i64 yo.no) := by (rw [cell_of_row W8 _ 0 _ _ _ x8]; rfl)); have U8 := Lib.hid u8; have X8 := Lib.hid x8; clear hW8 u8 x8; refine wpList_look2 rfl (.tmp 57) (.tmp 59) 77 rfl 3 4 keyedInt rfl (zeroBool _) bn i (numF seen) rfl (HI.out.up U8.out).mn _ (.int .i64 yo.no) rfl (keyInt _ (by have := HYO.out.no; omega) (by have := HYO.out.no; omega)) (.bool false) NS.out ?_) | ((with_reducible show wpList _ _ _ (Oper.mk _ (Op.mapUpdate _ _ _ _) _ _ _ _ :: _) _ _); refine wpList_mapPut rfl (.tmp 62) (.tmp 64) (.const (.bool true)) 77 rfl 3 4 keyedInt rfl bn i (numF seen) rfl (HI.out.up U8.out).mn (by unfold maxLen; omega) _ (.bool true) (.int .i64 yo.no) rfl rfl (keyInt _ (by have := HYO.out.no; omega) (by have := HYO.out.no; omega)) ?_; intro W9 m9 g9; rw [numF_put seen yo.no] at m9; have M9 := Lib.hid m9; have G9 := Lib.hid g9; (have x9 : W9.heap[wr.heap.size]? = some (.cells #[.int .i64 yo.no, .int .i64 yo.farm, .int .i64 yo.price, .int .i64 yo.lo, .int .i64 yo.hi, .slice yp ym yc] 26 (0, 0)) := (g9.block _ (lt_of_block X8.out) (by (intro e; injection e with e; have := HBS.out; omega))).trans X8.out); (have c5 : W9.cell? ⟨wr.heap.size, 5, none⟩ = some (.slice yp ym yc) := by (rw [cell_of_row W9 _ 5 _ _ _ x9]; rfl)); have X9 := Lib.hid x9; clear m9 g9 x9))
        have I9 : Hid (RevI W9 bm bn m (i + 1) ST (yo.no :: seen) u4 u5 A Ns) := (HI.out.up U8.out).put G9.out M9.out (by have := HBB.out; omega)
        have BD : Hid (RevB wr.heap.size bm bn u4 u5 A) := HI.out.bounds
        have B9 : Hid (Below bn W7 W9) := (HU.out.trans (U8.out.mono (Nat.le_of_lt HBS.out))).trans (below_map G9.out (Nat.le_refl _) (Nat.le_trans (Nat.le_of_lt HBS.out) U8.out.size))
        have UY : Hid (Up w W9) := Below.trans U7.out (B9.out.mono HWB.out)
        have S9 : Hid (wr.heap.size < W9.heap.size) := lt_of_block X9.out
        refine (clone_calls yp ym yc yo.lots W9 HYM.out (by have := HYO.out.ne; intro e; rw [e] at this; exact this rfl) (by rw [HYM.out]; have := HYO.out.len; omega) (HYR.out.kept2 UY.out) HYC.out HYM2.out).mono ?_
        rintro e W10 ⟨v, rfl, o10, u10⟩
        obtain ⟨pc, cc, hv, h101, h102, h103, -⟩ := o10.form (fun x _ => ltEnc_len x)
        rw [← HYM.out] at hv
        subst hv
        have X10 : Hid (W10.heap[wr.heap.size]? = some (.cells #[.int .i64 yo.no, .int .i64 yo.farm, .int .i64 yo.price, .int .i64 yo.lo, .int .i64 yo.hi, .slice yp ym yc] 26 (0, 0))) := (u10.block _ S9.out).trans X9.out
        have I10 : Hid (RevI W10 bm bn m (i + 1) ST (yo.no :: seen) u4 u5 A Ns) := I9.out.up u10
        have O10 := Lib.hid o10
        have B10 : Hid (Below bn W7 W10) := B9.out.trans (u10.mono (Nat.le_of_lt (Nat.lt_trans HBS.out S9.out)))
        have S10 : Hid (wr.heap.size < W10.heap.size) := lt_of_block X10.out
        have f1 : W10.cell? ⟨wr.heap.size, 5, none⟩ = some (.slice yp ym yc) := by rw [cell_of_row W10 _ 5 _ _ _ X10.out]; rfl
        have f2 : W10.frozen? ⟨wr.heap.size, 5, none⟩ = false := free_row X10.out 5
        clear c0 c5 h101 h102 h103 o10 u10 U8 X8 M9 G9 X9 I9 B9 UY HYR HYC HYM2 LK NS q7 HI HU
        go_wp2_with (first | ((with_reducible show wpList _ _ _ (Oper.mk _ (Op.load _ (Operand.tmp 13)) _ _ _ _ :: _) _ _); refine wpList_named ?_; intro W11 hW11; (have x11 : W11.heap[wr.heap.size]? = some (.cells #[.int .i64 yo.no, .int .i64 yo.farm, .int .i64 yo.price, .int .i64 yo.lo, .int .i64 yo.hi, .slice pc ym cc] 26 (0, 0)) := by (rw [hW11, heap_setCell_same W10 _ 5 _ _ _ X10.out]; rfl)); (have e11 : ∀ g, g ≠ wr.heap.size → W11.heap[g]? = W10.heap[g]? := fun g hg => by (rw [hW11]; exact heap_setCell_other _ _ _ _ hg)); (have i11 : RevI W11 bm bn m (i + 1) ST (yo.no :: seen) u4 u5 A Ns := I10.out.kept BD.out (fun g hg => e11 g (Nat.ne_of_lt hg))); (have o11 : OwnR W11 bn 61 2 ltEnc (.slice pc ym cc) yo.lots := (O10.out.kept (fun g hg => e11 g (by (have h1 := O10.out.block g hg; have h2 := S9.out; intro e; omega)))).less (Nat.le_of_lt (Nat.lt_trans HBS.out S9.out))); (have b11 : Below bn W7 W11 := by (rw [hW11]; have a := B10.out; exact ⟨a.os, a.tape, a.output, by simpa [World.setCell] using a.size, fun j hj => (heap_setCell_other _ _ _ _ (by show j ≠ wr.heap.size; have := HBS.out; omega)).trans (a.block j hj)⟩)); have X11 := Lib.hid x11; have I11 := Lib.hid i11; have O11 := Lib.hid o11; have B11 := Lib.hid b11; clear hW11 x11 e11 i11 o11 b11; refine wpList_load_arr rfl 26 (.tmp 13) rfl wr.heap.size 0 rfl #[.int .i64 yo.no, .int .i64 yo.farm, .int .i64 yo.price, .int .i64 yo.lo, .int .i64 yo.hi, .slice pc ym cc] _ (rangeAt_row X11.out) rfl rfl (by rfl) ?_) | (refine wpList_named ?_; intro W12 hW12; at_builtin; (have u12 : Up W11 W12 := by (rw [hW12]; exact (Up.refl W11).alloc _)); (have r12 : RowAt W12 (some ⟨W11.heap.size, 0, none⟩) 6 ofCells [(⟨yo, pc, cc⟩ : OfA)] := rowAt_block (D := #[.int .i64 yo.no, .int .i64 yo.farm, .int .i64 yo.price, .int .i64 yo.lo, .int .i64 yo.hi, .slice pc ym cc]) (fun _ _ => rfl) (by (rw [HYM.out]; rfl)) (by (rw [hW12]; exact heap_new rfl))); have U12 := Lib.hid u12; have R12 := Lib.hid r12; clear hW12 u12 r12; refine wpList_appR rfl (.tmp 69) (.tmp 71) eltOff (by omega) rfl rfl bn _ A _ 1 1 [(⟨yo, pc, cc⟩ : OfA)] rfl rfl rfl (fun x _ => ofCells_len x) (fun x _ => ofCells_one x) (I11.out.up U12.out).r4 R12.out (by have := AI.out; simp; omega) (Nat.le_trans (Nat.le_of_lt (lt_of_block X11.out |> Nat.lt_trans HBS.out)) U12.out.size) ?_; intro p13 m13 c13 W13 o13 b13 g13; (have I13 : Hid (RevI W13 bm bn m (i + 1) ST (yo.no :: seen) (.slice p13 m13 c13) u5 (A ++ [(⟨yo, pc, cc⟩ : OfA)]) Ns) := (I11.out.up U12.out).app4 g13 o13 (by (show OwnR _ _ _ _ _ (.slice pc yo.lots.length cc) _; rw [← HYM.out]; exact O11.out.up U12.out))); (have B13 : Hid (Below bn W7 W13) := (B11.out.trans (U12.out.mono (Nat.le_of_lt (Nat.lt_trans HBS.out (lt_of_block X11.out))))).trans b13); clear o13 b13 g13))
        exact ⟨⟨i + 1, A ++ [(⟨yo, pc, cc⟩ : OfA)], Ns, yo.no :: seen, by omega, by go_num, by (show LF = _; rw [List.map_append]; exact HL2.out), HN2, ⟨by have := HLE.out; simp; omega, by have := HLE.out; omega⟩, I13.out, B13.out⟩, by simp [intOf]; omega⟩

theorem reveal_calls (p q : Option Addr) (n c m d : Nat) (sls : List SlA) (xs : List OpA) (w : World) (hn : n = sls.length) (hm : m = xs.length) (hc : n ≤ c) (hcm : c ≤ maxLen) (hd : m ≤ d) (hdm : d ≤ maxLen)
    (hr : RowAt w p 2 slCells sls) (hsl : ∀ s ∈ sls, SlAt w s) (hx : RowAt w q 7 opCells xs) (hxa : ∀ x ∈ xs, OpAt w x) (ht : Tabs w) : Calls Tryd.prog 19 #[.slice p n c, .slice q m d] w
      (RetR w (revO sls xs) (revS sls xs) (revE sls xs)) := by
  unfold revO revS
  by_cases hb : revE sls xs = 0
  · rw [if_pos hb, if_pos hb, hb]; exact reveal_good p q n c m d sls xs w hn hm hb hc hcm hd hdm hr hsl hx hxa ht
  · rw [if_neg hb, if_neg hb]; exact reveal_bad p q n c m d sls xs w hn hm hb hc hcm hd hdm hr

end Go.Proofs.YtmifpokafaiebaaDoor
