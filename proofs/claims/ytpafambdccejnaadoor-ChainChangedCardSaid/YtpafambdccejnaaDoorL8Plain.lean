/- THE PLAIN LAWS of chapter 8: texts tell links apart; chains with one head. -/
import Derived.Test.YtpafambdccejnaaDoorL8Open
namespace Go.Proofs.YtpafambdccejnaaDoor
open Go.RowKit
set_option linter.unusedVariables false

theorem encI_inj {a b : Int} {r s : List UInt8} (ha : i64In a) (hb : i64In b) (h : Enc.encI a ++ r = Enc.encI b ++ s) : a = b ∧ r = s := by
  simp only [Enc.encI, List.cons_append, List.cons.injEq, true_and] at h
  obtain ⟨h1, h2⟩ := Enc.num_inj (Enc.zz_lt ha.1 ha.2) (Enc.zz_lt hb.1 hb.2) h
  exact ⟨Enc.zz_inj h1, h2⟩
theorem encT_inj {a b : List UInt8} {r s : List UInt8} (ha : a.length ≤ 1000) (hb : b.length ≤ 1000) (h : Enc.encT a ++ r = Enc.encT b ++ s) : a = b ∧ r = s := by
  simp only [Enc.encT, List.cons_append, List.cons.injEq, true_and, List.append_assoc] at h
  obtain ⟨h1, h2⟩ := Enc.num_inj (by omega) (by omega) h
  exact List.append_inj h2 h1
theorem lkText_form (x : Lk) : lkText x = 3 :: (Enc.num 4 ++ (Enc.encI x.node ++ (Enc.encI x.no ++ (Enc.encT x.prev ++ (Enc.encT x.data ++ []))))) := rfl
theorem lkText_inj {x y : Lk} (hx : x.ok) (hy : y.ok) (h : lkText x = lkText y) : x = y := by
  rw [lkText_form, lkText_form] at h
  simp only [List.cons.injEq, true_and] at h
  have h1 := List.append_cancel_left h
  obtain ⟨e1, h2⟩ := encI_inj hx.node hy.node h1
  obtain ⟨e2, h3⟩ := encI_inj hx.no hy.no h2
  obtain ⟨e3, h4⟩ := encT_inj (by have := hx.prev; omega) (by have := hy.prev; omega) h3
  obtain ⟨e4, _⟩ := encT_inj (by have := hx.data; omega) (by have := hy.data; omega) h4
  exact Lk.eq_iff.2 ⟨e1, e2, e3, e4⟩
theorem txt_take (ls : List Lk) (i : Nat) (h : i < ls.length) : txt (ls.take (i + 1)) = (bLink, lkText ls[i]) := by
  unfold txt
  rw [List.take_succ_eq_append_getElem h, List.getLast?_append]
  rfl
theorem good_prev {ls : List Lk} (hk : chk ls = 0) (i : Nat) (h : i < ls.length) : ls[i].prev = hd (ls.take i) := by
  have := (chk_zero.1 hk) i h
  rw [badAt_lt h] at this
  unfold badL at this
  rw [decide_eq_false_iff_not] at this
  rcases Classical.em (ls[i].prev = hd (ls.take i)) with h1 | h1
  · exact h1
  · exact absurd (Or.inr (Or.inr (Or.inr (Or.inr h1)))) this

theorem clash_or {a b : List Lk} (i : Nat) (ha : i < a.length) (hb : i < b.length) (hfa : Few a) (hfb : Few b) (hh : hd (a.take (i + 1)) = hd (b.take (i + 1))) : clashB (a.take (i + 1)) (b.take (i + 1)) = true ∨ a[i] = b[i] := by
  rcases Classical.em (a[i] = b[i]) with h | h
  · exact .inr h
  · left
    unfold clashB
    rw [decide_eq_true_iff]
    refine ⟨fun e => h ?_, hh⟩
    rw [txt_take a i ha, txt_take b i hb] at e
    exact lkText_inj (hfa.2 _ (List.getElem_mem ha)) (hfb.2 _ (List.getElem_mem hb)) (congrArg Prod.snd e)

/-- chains with one head are equal, or two texts clash -/
theorem equal_law {a b : List Lk} (hfa : Few a) (hfb : Few b) (ka : chk a = 0) (kb : chk b = 0) (hl : a.length = b.length) (hh : hd a = hd b) (hne : a ≠ b) :
    ∃ i, i < a.length ∧ clashB (a.take (i + 1)) (b.take (i + 1)) = true := by
  refine Classical.byContradiction fun hno => hne ?_
  have key : ∀ k, k ≤ a.length → hd (a.take (a.length - k)) = hd (b.take (a.length - k)) ∧ a.drop (a.length - k) = b.drop (a.length - k) := by
    intro k
    induction k with
    | zero =>
      intro _
      rw [Nat.sub_zero, List.take_length, hl, List.take_length]
      refine ⟨hh, ?_⟩
      rw [← hl, List.drop_length, hl, List.drop_length]
    | succ k ih =>
      intro hk
      obtain ⟨h1, h2⟩ := ih (by omega)
      obtain ⟨i, hi⟩ : ∃ i, i = a.length - (k + 1) := ⟨_, rfl⟩
      have hi1 : a.length - k = i + 1 := by omega
      rw [hi1] at h1 h2
      rw [← hi]
      have hia : i < a.length := by omega
      have hib : i < b.length := by omega
      have e : a[i] = b[i] := by
        rcases clash_or i hia hib hfa hfb h1 with h | h
        · exact absurd ⟨i, hia, h⟩ hno
        · exact h
      refine ⟨?_, ?_⟩
      · rw [← good_prev ka i hia, ← good_prev kb i hib, e]
      · rw [List.drop_eq_getElem_cons hia, List.drop_eq_getElem_cons hib, e, h2]
  have := (key a.length (Nat.le_refl _)).2
  simpa using this

/-- a link that is replaced -/
theorem changed_law {l : List Lk} {k : Nat} {x : Lk} (hf : Few l) (hx : x.ok) (hk : k + 1 < l.length) (kl : chk l = 0) (km : chk (l.set k x) = 0) (hne : l[k]'(by omega) ≠ x) :
    clashB (l.take (k + 1)) ((l.set k x).take (k + 1)) = true := by
  have hml : (l.set k x).length = l.length := List.length_set
  have hfm : Few (l.set k x) := ⟨by rw [hml]; exact hf.1, fun y hy => by
    rcases List.mem_or_eq_of_mem_set hy with h | h
    · exact hf.2 y h
    · rw [h]; exact hx⟩
  have h1 := good_prev kl (k + 1) hk
  have h2 := good_prev km (k + 1) (by rw [hml]; exact hk)
  have e : (l.set k x)[k + 1]'(by rw [hml]; exact hk) = l[k + 1] := by rw [List.getElem_set_ne (by omega)]
  rw [e, h1] at h2
  rcases clash_or k (a := l) (b := l.set k x) (by omega) (by rw [hml]; omega) hf hfm h2 with h | h
  · exact h
  · rw [List.getElem_set_self] at h
    exact absurd h hne

end Go.Proofs.YtpafambdccejnaaDoor
