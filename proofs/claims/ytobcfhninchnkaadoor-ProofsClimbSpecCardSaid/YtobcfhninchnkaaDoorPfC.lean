/- proofs.turns. slices.Reverse at rows of the call's own. Printed by tools/genrev.py. proofs.Prove. proofs.Prove: the good case. -/
import Derived.Test.YtobcfhninchnkaaDoorPfB
import Derived.Test.YtobcfhninchnkaaDoorRw
namespace Go.Proofs.YtobcfhninchnkaaDoor
open Go.RowKit
set_option linter.unusedVariables false
set_option maxRecDepth 100000

/-- from the root down: how many leaves are on the left side; 1: the way goes to the left -/
def turnsS (n i : Nat) : List (Nat × Nat) :=
  if h : n ≤ 1 then [] else if i < hf n then (hf n, 1) :: turnsS (hf n) i else (hf n, 0) :: turnsS (n - hf n) (i - hf n)
termination_by n
decreasing_by
  · exact hf_lt (by omega)
  · have := hf_pos n; omega
theorem turnsS_one (i : Nat) {n : Nat} (h : n ≤ 1) : turnsS n i = [] := by rw [turnsS]; simp [h]
theorem turnsS_left {n i : Nat} (h : 2 ≤ n) (hi : i < hf n) : turnsS n i = (hf n, 1) :: turnsS (hf n) i := by rw [turnsS]; rw [dif_neg (by omega), if_pos hi]
theorem turnsS_right {n i : Nat} (h : 2 ≤ n) (hi : hf n ≤ i) : turnsS n i = (hf n, 0) :: turnsS (n - hf n) (i - hf n) := by rw [turnsS]; rw [dif_neg (by omega), if_neg (by omega)]
def tEnc (t : Nat × Nat) : List Value := [.int .i64 t.1, .int .i64 t.2]
theorem tEnc_len (t : Nat × Nat) : (tEnc t).length = 2 := rfl
theorem tEnc_one (t : Nat × Nat) : ∀ u ∈ tEnc t, u.oneCell' = true := by
  intro u hu
  simp only [tEnc, List.mem_cons, List.not_mem_nil, or_false] at hu
  rcases hu with rfl | rfl <;> rfl
theorem eltTurn : EltT Tryd.prog 54 56 2 16 := ⟨rfl, _, _, rfl, rfl, by kernel_rfl, by kernel_rfl, by kernel_rfl⟩
theorem turnsS_length : ∀ (k n i : Nat), n = k → (turnsS n i).length ≤ n := by
  intro k
  induction k using Nat.strongRecOn with
  | ind k ih =>
    intro n i hn
    by_cases h : n ≤ 1
    · rw [turnsS_one i h]; simp
    · have h1 := hf_lt (n := n) (by omega)
      have h2 := hf_pos n
      by_cases hi : i < hf n
      · rw [turnsS_left (by omega) hi, List.length_cons]; have := ih (hf n) (by omega) (hf n) i rfl; omega
      · rw [turnsS_right (by omega) (by omega), List.length_cons]; have := ih (n - hf n) (by omega) (n - hf n) (i - hf n) rfl; omega

/-- a row of turns of the call's own, returned -/
def RetT (w : World) (l : List (Nat × Nat)) (e : Ending) (w' : World) : Prop := ∃ v, e = .returned v ∧ OwnR w' w.heap.size 56 2 tEnc v l ∧ Up w w'

set_option maxHeartbeats 1000000 in
theorem turns_calls (n i : Nat) (w : World) (hin : i < n) (hn : n ≤ 700) : Calls Tryd.prog 28 #[.int .i64 n, .int .i64 i] w (RetT w (turnsS n i)) := by
  go_enter Tryd.func28, Tryd.ntmps28
  go_wp2
  go_loopw [0, 1, 4] (fun v0 v1 v4 wq => ∃ (m j : Nat) (pre : List (Nat × Nat)), v0 = .int .i64 m ∧ v1 = .int .i64 j ∧ j < m ∧ m ≤ 700 ∧ Hid (turnsS n i = pre ++ turnsS m j) ∧ Hid (OwnR wq w.heap.size 56 2 tEnc v4 pre) ∧ Hid (Up w wq))
    (fun v0 _ _ _ => (intOf v0).toNat)
  case atStart => exact ⟨n, i, [], rfl, rfl, hin, hn, rfl, OwnR.nil, Up.refl _⟩
  case round =>
    obtain ⟨m, j, pre, rfl, rfl, hjm, hm7, HT, HO, HU⟩ := hrel
    by_cases hm : m ≤ 1
    case pos =>
      have d1 : decide ((1 : Int) < (m : Int)) = false := by simp; omega
      have e : turnsS n i = pre := by rw [HT.out, turnsS_one j hm, List.append_nil]
      have E := Lib.hid e
      obtain ⟨p, c, rfl, h1, h2, h3, h4⟩ := HO.out.form (fun x _ => tEnc_len x)
      clear h3 h4 e
      go_wp2
      go_ret
      exact ⟨.slice p pre.length c, rfl, by rw [E.out]; exact HO.out, HU.out⟩
    have hm2 : 2 ≤ m := by omega
    have d1 : decide ((1 : Int) < (m : Int)) = true := by simp; omega
    have HH := Lib.hid fun W => half_calls m hm2 hm7 W
    have hlt := hf_lt hm2
    have hpos := hf_pos m
    have hlen := congrArg List.length HT.out
    have htl := turnsS_length n n i rfl
    rw [List.length_append] at hlen
    obtain ⟨q, hq⟩ : ∃ q, q = hf m := ⟨_, rfl⟩
    obtain ⟨p, c, hv4, h1, h2, h3, h4⟩ := HO.out.form (fun x _ => tEnc_len x)
    subst hv4
    clear h1 h2 h3 h4
    go_wp2_with fail
    refine (HH.out wr).mono ?_
    rintro e w2 ⟨rfl, rfl⟩
    by_cases hj : j < hf m
    case pos =>
      have HT2 : Hid (turnsS n i = (pre ++ [(q, 1)]) ++ turnsS q j) := by show _ = _; rw [HT.out, turnsS_left hm2 hj, hq]; simp
      have d2 : decide ((j : Int) < (q : Int)) = true := by simp; omega
      rw [← hq] at hlt hpos hj ⊢
      have hpl : pre.length ≤ 700 := by omega
      clear hq hlen htl HH
      go_wp2_with (refine wpList_named ?_; intro W4 hW4; at_builtin; (have hu : Up w2 W4 := by (rw [hW4]; exact (Up.refl w2).alloc _)); (have hr : RowAt W4 (some ⟨w2.heap.size, 0, none⟩) 2 tEnc [(q, 1)] := rowAt_one (D := #[.int .i64 q, .int .i64 1]) rfl (by (rw [hW4]; exact heap_new rfl))); refine wpList_appR rfl (.tmp 13) (.tmp 16) eltTurn (by omega) rfl rfl w.heap.size _ pre _ 1 1 [(q, 1)] rfl rfl rfl (fun x _ => tEnc_len x) (fun x _ => tEnc_one x) (HO.out.up hu) hr (by simp; omega) (Nat.le_trans HU.out.size hu.size) ?_; intro p' m' d' w5 o5 b5 _; have O5 := Lib.hid o5; (have U5 : Hid (Up w w5) := Below.trans (Up.trans HU.out hu) b5); clear o5 b5 hr hu hW4)
      exact ⟨⟨q, j, pre ++ [(q, 1)], rfl, rfl, hj, by omega, HT2, O5, U5⟩, by simp [intOf]; omega⟩
    case neg =>
      have HT2 : Hid (turnsS n i = (pre ++ [(q, 0)]) ++ turnsS (m - q) (j - q)) := by show _ = _; rw [HT.out, turnsS_right hm2 (by omega), hq]; simp
      have d2 : decide ((j : Int) < (q : Int)) = false := by simp; omega
      rw [← hq] at hlt hpos hj ⊢
      have hpl : pre.length ≤ 700 := by omega
      have e1 : IntKind.i64.wrap ((m : Int) - (q : Int)) = ((m - q : Nat) : Int) := by rw [← Int.ofNat_sub (by omega)]; exact IntWalk.i64_in _ (by omega)
      have e2 : IntKind.i64.wrap ((j : Int) - (q : Int)) = ((j - q : Nat) : Int) := by rw [← Int.ofNat_sub (by omega)]; exact IntWalk.i64_in _ (by omega)
      clear hq hlen htl HH
      go_wp2_with (refine wpList_named ?_; intro W4 hW4; at_builtin; (have hu : Up w2 W4 := by (rw [hW4]; exact (Up.refl w2).alloc _)); (have hr : RowAt W4 (some ⟨w2.heap.size, 0, none⟩) 2 tEnc [(q, 0)] := rowAt_one (D := #[.int .i64 q, .int .i64 0]) rfl (by (rw [hW4]; exact heap_new rfl))); refine wpList_appR rfl (.tmp 19) (.tmp 22) eltTurn (by omega) rfl rfl w.heap.size _ pre _ 1 1 [(q, 0)] rfl rfl rfl (fun x _ => tEnc_len x) (fun x _ => tEnc_one x) (HO.out.up hu) hr (by simp; omega) (Nat.le_trans HU.out.size hu.size) ?_; intro p' m' d' w5 o5 b5 _; have O5 := Lib.hid o5; (have U5 : Hid (Up w w5) := Below.trans (Up.trans HU.out hu) b5); clear o5 b5 hr hu hW4)
      exact ⟨⟨m - q, j - q, pre ++ [(q, 0)], rfl, rfl, by omega, by omega, HT2, O5, U5⟩, by simp [intOf]; omega⟩

end Go.Proofs.YtobcfhninchnkaaDoor

namespace Go.Proofs.YtobcfhninchnkaaDoor
open Go Go.RowKit
set_option linter.unusedVariables false
set_option maxRecDepth 100000

section
variable {α : Type} {enc : α → List Value} {k : Nat}
theorem fl_set : ∀ (l : List α) (i : Nat) (x : α), i < l.length → (∀ y ∈ l, (enc y).length = k) → (enc x).length = k → fl enc (l.set i x) = splice (fl enc l) (i * k) (enc x)
  | y :: r, 0, x, hi, hk, hx => by
    have hy := hk y List.mem_cons_self
    rw [List.set_cons_zero, fl_cons, fl_cons, splice, Nat.zero_mul, List.take_zero, List.nil_append, Nat.zero_add, hx, List.drop_append_of_le_length (by omega), List.drop_of_length_le (by omega), List.nil_append]
  | y :: r, i + 1, x, hi, hk, hx => by
    have hy := hk y List.mem_cons_self
    have ih := fl_set r i x (by simpa using hi) (fun z hz => hk z (List.mem_cons_of_mem _ hz)) hx
    have e : (i + 1) * k = (enc y).length + i * k := by rw [hy, Nat.add_mul]; omega
    rw [List.set_cons_succ, fl_cons, fl_cons, ih, splice, splice, e, List.take_length_add_append, Nat.add_assoc, List.drop_length_add_append, List.append_assoc]
theorem splice_take {L M : List Value} {o n : Nat} {vs : List Value} (h : L.take n = M) (hn : n = M.length) (ho : o + vs.length ≤ n) : (splice L o vs).take n = splice M o vs := by
  have e : L = M ++ L.drop n := by rw [← h, List.take_append_drop]
  have h1 : (M ++ L.drop n).take o = M.take o := List.take_append_of_le_length (by omega)
  have h2 : (M ++ L.drop n).drop (o + vs.length) = M.drop (o + vs.length) ++ L.drop n := List.drop_append_of_le_length (by omega)
  rw [e, splice, splice, h1, h2, ← List.append_assoc, ← List.append_assoc, ← List.append_assoc]
  rw [List.take_append_of_le_length (by simp; omega)]
  exact List.take_of_length_le (by simp; omega)

theorem OwnR.at' {w : World} {base : Nat} {E : TypeId} {g n c : Nat} {l : List α} (h : OwnR w base E k enc (.slice (some ⟨g, 0, none⟩) n c) l) (hk : ∀ y ∈ l, (enc y).length = k) (i : Nat) (hi : i < l.length) : w.rangeAt g (0 + i * k) (enc l[i]) := by
  obtain ⟨p, c', hv, _, _, hr, _⟩ := h.form hk
  injection hv with h1 h2 h3
  subst h1
  obtain ⟨b, o, e, hr⟩ := hr (by rintro rfl; simp at hi)
  injection e with e
  injection e with e1 e2
  subst e1 e2
  exact hr i hi

/-- one element of an own row is laid anew -/
theorem OwnR.set {w : World} {base : Nat} {E : TypeId} {g n c : Nat} {l : List α} {i : Nat} {x : α} (h : OwnR w base E k enc (.slice (some ⟨g, 0, none⟩) n c) l) (hk : ∀ y ∈ l, (enc y).length = k) (hx : (enc x).length = k) (hi : i < l.length) :
    OwnR (w.setCells g (0 + i * k) (enc x)) base E k enc (.slice (some ⟨g, 0, none⟩) n c) (l.set i x) ∧ w.there g (0 + i * k) k := by
  have hne : l ≠ [] := by rintro rfl; simp at hi
  obtain ⟨g', c', cur, hv, hbg, hg, hnc, hcm, hcs, htake⟩ := h.form2 hne
  injection hv with h1 h2 h3
  injection h1 with h1
  injection h1 with h1
  subst h1 h2 h3
  have hlen := fl_len l hk
  have hb : i * k + k ≤ l.length * k := by have := Nat.mul_le_mul_right k (show i + 1 ≤ l.length from hi); rw [Nat.add_mul, Nat.one_mul] at this; exact this
  have hcb : l.length * k ≤ c * k := Nat.mul_le_mul_right k hnc
  have hcl : cur.toList.length = c * k := by have := Array.length_toList (xs := cur); omega
  rw [Nat.zero_add]
  refine ⟨?_, ?_⟩
  · have hg' : w.heap[g]? = some (.cells cur.toList.toArray E (0, 0)) := by simpa using hg
    have hh := heap_setCells_row g E (enc x) (i * k) cur.toList w hg' (by rw [hcl, hx]; omega)
    refine ⟨?_, .inr ⟨g, c, _, by rw [List.length_set], hbg, hh, by rw [List.length_set]; exact hnc, hcm, ?_, ?_⟩⟩
    · rw [fl_len _ (fun y hy => by exact (List.mem_or_eq_of_mem_set hy).elim (hk y) (fun e => e ▸ hx))]
    · simp only [List.size_toArray, splice, List.length_append, List.length_take, List.length_drop, hcl, hx]; omega
    · rw [fl_set l i x hi hk hx, List.length_set]
      exact splice_take (by rw [← htake, hlen]) (by rw [hlen]) (by rw [hx]; omega)
  · intro j hj
    refine ⟨?_, free_row hg _⟩
    obtain ⟨u, hu⟩ := row_cell hg (i := i * k + j) (by rw [hcl]; omega)
    rw [hu]; rfl

/-- what a round of Reverse has laid -/
def RevAt (l l' : List α) (i : Nat) : Prop := l'.length = l.length ∧ ∀ t (h : t < l'.length) (h1 : t < l.length) (h2 : l.length - 1 - t < l.length), l'[t] = if t < i ∨ l.length - i ≤ t then l[l.length - 1 - t] else l[t]
theorem RevAt.start (l : List α) : RevAt l l 0 := ⟨rfl, fun t h h1 h2 => by rw [if_neg (by omega)]⟩
theorem RevAt.done {l l' : List α} {i : Nat} (h : RevAt l l' i) (hi : l.length ≤ 2 * i + 1) : l' = l.reverse := by
  refine List.ext_getElem (by rw [h.1, List.length_reverse]) fun t h1 h2 => ?_
  have h3 : t < l.length := by rw [← h.1]; exact h1
  rw [h.2 t h1 h3 (by omega), List.getElem_reverse]
  split
  · rfl
  · congr 1; omega
theorem RevAt.step {l l' : List α} {i j : Nat} (h : RevAt l l' i) (hij : i + j + 1 = l.length) (hlt : i < j) (h1 : i < l'.length) (h2 : j < l'.length) : RevAt l ((l'.set i l'[j]).set j l'[i]) (i + 1) := by
  have hl := h.1
  refine ⟨by simp [hl], fun t ht ht1 ht2 => ?_⟩
  rw [List.getElem_set]
  by_cases hj : j = t
  · subst hj
    rw [if_pos rfl, h.2 i h1 (by omega) (by omega), if_neg (by omega), if_pos (by omega)]
    congr 1; omega
  · rw [if_neg hj, List.getElem_set]
    by_cases hi : i = t
    · subst hi
      rw [if_pos rfl, h.2 j h2 (by omega) (by omega), if_neg (by omega), if_pos (by omega)]
      congr 1; omega
    · rw [if_neg hi, h.2 t (by simpa using ht) ht1 ht2]
      by_cases hc : t < i ∨ l.length - i ≤ t
      · rw [if_pos hc, if_pos (by omega)]
      · rw [if_neg hc, if_neg (by omega)]
theorem RevAt.mem {l l' : List α} {i : Nat} (h : RevAt l l' i) : ∀ x ∈ l', x ∈ l := fun x hx => by
  obtain ⟨t, ht, rfl⟩ := List.getElem_of_mem hx
  have h3 : t < l.length := by rw [← h.1]; exact ht
  rw [h.2 t ht h3 (by omega)]
  split <;> exact List.getElem_mem _
end

set_option maxHeartbeats 2000000 in
theorem revT_calls (base : Nat) (v : Value) (l : List (Nat × Nat)) (w : World) (hl : ∀ x ∈ l, (tEnc x).length = 2) (hone : ∀ x ∈ l, ∀ u ∈ tEnc x, u.oneCell' = true) (hn : l.length ≤ 100000) (h : OwnR w base 56 2 tEnc v l) :
    Calls Tryd.prog 57 #[v] w fun e w' => e = .returned (.tuple #[]) ∧ OwnR w' base 56 2 tEnc v l.reverse ∧ Chg (fun b => v.ownBlock = some b) w w' := by
  by_cases hne : l = []
  case pos =>
    subst hne
    obtain ⟨p, c, rfl, h1, h2, h3, h4⟩ := h.form hl
    have H := Lib.hid h
    clear h h1 h2 h3 h4
    show Calls Tryd.prog 57 #[.slice p 0 c] w _
    go_enter Tryd.func57, Tryd.ntmps57
    go_wp2
    go_loopw [2, 3] (fun s2 s3 wq => s2 = .int .i64 0 ∧ s3 = .int .i64 (-1) ∧ wq = w) (fun _ _ _ => 0)
    case atStart => exact ⟨rfl, rfl, rfl⟩
    case round =>
      obtain ⟨rfl, rfl, rfl⟩ := hrel
      go_wp2
      go_end0
      exact ⟨rfl, H.out, Chg.refl _ _⟩
  obtain ⟨g, c, cur, rfl, hbg, hg, hnc, hcm, hcs, htake⟩ := h.form2 hne
  obtain ⟨n, hln⟩ : ∃ n, n = l.length := ⟨_, rfl⟩
  have hn1 : 1 ≤ n := by rw [hln]; exact List.length_pos_iff.2 hne
  rw [← hln] at h hn hnc ⊢
  have e1 : IntKind.i64.wrap ((n : Int) - 1) = ((n - 1 : Nat) : Int) := by rw [show (n : Int) - 1 = ((n - 1 : Nat) : Int) by omega]; exact IntWalk.i64_in _ (by omega)
  have HL := Lib.hid hl
  have HONE := Lib.hid hone
  have H := Lib.hid h
  have HLN := Lib.hid hln
  clear hl hone h hln hg hbg hcs htake hcm
  go_enter Tryd.func57, Tryd.ntmps57
  go_wp2
  clear e1
  go_loopw [2, 3] (fun s2 s3 wq => ∃ (i j : Nat) (l' : List (Nat × Nat)), s2 = .int .i64 i ∧ s3 = .int .i64 j ∧ i + j + 1 = n ∧ Hid (RevAt l l' i) ∧ Hid (OwnR wq base 56 2 tEnc (.slice (some ⟨g, 0, none⟩) n c) l') ∧ Hid (Chg (fun b => (Value.slice (some ⟨g, 0, none⟩) n c).ownBlock = some b) w wq)) (fun _ s3 _ => (intOf s3).toNat)
  case atStart => exact ⟨0, n - 1, l, rfl, rfl, by omega, RevAt.start l, H.out, Chg.refl _ _⟩
  case round =>
    obtain ⟨i, j, l', rfl, rfl, hij, HR, HO, HC⟩ := hrel
    by_cases hlt : i < j
    case neg =>
      have hd := HR.out.done (by rw [← HLN.out]; omega)
      have d1 : decide ((i : Int) < (j : Int)) = false := by simp; omega
      rw [hd] at HO
      clear hd
      go_wp2
      go_end0
      exact ⟨rfl, HO.out, HC.out⟩
    have d1 : decide ((i : Int) < (j : Int)) = true := by simp; omega
    have hil : i < l'.length := by rw [HR.out.1, ← HLN.out]; omega
    have hjl : j < l'.length := by rw [HR.out.1, ← HLN.out]; omega
    have hkl : ∀ y ∈ l', (tEnc y).length = 2 := fun y hy => HL.out y (HR.out.mem y hy)
    have hxi := hkl l'[i] (List.getElem_mem hil)
    have hxj := hkl l'[j] (List.getElem_mem hjl)
    have hoi := HONE.out l'[i] (HR.out.mem _ (List.getElem_mem hil))
    have hoj := HONE.out l'[j] (HR.out.mem _ (List.getElem_mem hjl))
    have HR2 : Hid (RevAt l ((l'.set i l'[j]).set j l'[i]) (i + 1)) := HR.out.step (by rw [← HLN.out]; exact hij) hlt hil hjl
    have ri := HO.out.at' hkl i hil
    have rj := HO.out.at' hkl j hjl
    rw [Nat.zero_add] at ri rj
    obtain ⟨A, hA⟩ : ∃ A, A = (tEnc l'[i]).toArray := ⟨_, rfl⟩
    obtain ⟨B, hB⟩ : ∃ B, B = (tEnc l'[j]).toArray := ⟨_, rfl⟩
    have eA : tEnc l'[i] = A.toList := by rw [hA]
    have eB : tEnc l'[j] = B.toList := by rw [hB]
    have EA := Lib.hid eA
    have EB := Lib.hid eB
    have HXI := Lib.hid hxi
    have HXJ := Lib.hid hxj
    have HKL := Lib.hid hkl
    rw [eA] at ri hxi hoi
    rw [eB] at rj hxj hoj
    have HAs : Hid (A.size = 2) := by show _ = _; simpa using hxi
    have HBs : Hid (B.size = 2) := by show _ = _; simpa using hxj
    have HAo : Hid (A.all (·.oneCell') = true) := by have := all_oneCell_toArray hoi; rw [Array.toArray_toList] at this; exact this
    have HBo : Hid (B.all (·.oneCell') = true) := by have := all_oneCell_toArray hoj; rw [Array.toArray_toList] at this; exact this
    have RI := Lib.hid ri
    have RJ := Lib.hid rj
    clear ri rj hA hB eA eB hoi hoj hxi hxj hkl
    have hin : i < n := by omega
    have hjn : j < n := by omega
    go_wp2_with fail
    refine wp_region_fork_at [0, 1, 2, 3, 4, 5, 8, 9, 6, 10] [7, 11, 12, 13, 14, 15] [11, 7, 12, 13, 14, 15] (by kernel_rfl) (by kernel_rfl) (fun _ _ d _ _ h => by cases d <;> exact h) ?_
    intro w4 U4 hW
    refine ⟨fun _ => True, trivial, ?_⟩
    haveI : Nonempty (InC (fun _ => True)) := ⟨⟨w4, trivial⟩⟩
    simp only [pick, List.getElem?_cons_zero, List.getElem?_cons_succ]
    repeat (refine wpStillC_step (fun K hK => ?_); go_simp; refine hK _ ?_; clear hK K)
    refine wpStillC_nil ?_
    have RI4 := Lib.hid (rangeAt_up RI.out U4)
    have RJ4 := Lib.hid (rangeAt_up RJ.out U4)
    obtain ⟨S1, T1⟩ := (HO.out.up U4).set HKL.out HXJ.out hil
    obtain ⟨S2, T2⟩ := S1.set (i := j) (x := l'[i]) (fun y hy => (List.mem_or_eq_of_mem_set hy).elim (HKL.out y) (fun e => e ▸ HXJ.out)) HXI.out (by simpa using hjl)
    rw [Nat.zero_add, EB.out] at S1 S2
    rw [Nat.zero_add, EB.out] at T2
    rw [Nat.zero_add] at T1 S2 T2
    rw [EA.out] at S2
    obtain ⟨W5, h5⟩ : ∃ W5, W5 = w4.setCells g (i * 2) B.toList := ⟨_, rfl⟩
    rw [← h5] at S2 T2
    have C5 : Chg (· = g) w4 W5 := by rw [h5]; exact chg_setCells g B.toList _ w4
    have TI : Hid (w4.there g (i * 2) B.size) := by show World.there _ _ _ _; rw [HBs.out]; exact T1
    have TJ : Hid (W5.there g (j * 2) A.size) := by show World.there _ _ _ _; rw [HAs.out]; exact T2
    obtain ⟨W6, h6⟩ : ∃ W6, W6 = W5.setCells g (j * 2) A.toList := ⟨_, rfl⟩
    rw [← h6] at S2
    have C6 : Chg (· = g) W5 W6 := by rw [h6]; exact chg_setCells g A.toList _ W5
    have O6 := Lib.hid S2
    have HC6 : Hid (Chg (fun b => (Value.slice (some ⟨g, 0, none⟩) n c).ownBlock = some b) w W6) :=
      HC.out.trans ((U4.chg _).trans ((C5.mono fun b _ e => by rw [e]; rfl).trans (C6.mono fun b _ e => by rw [e]; rfl)))
    have H5 := Lib.hid h5
    have H6 := Lib.hid h6
    clear S1 T1 S2 T2 C5 C6 U4 hW h5 h6
    have e1 : IntKind.i64.wrap ((i : Int) + 1) = ((i + 1 : Nat) : Int) := by rw [show (i : Int) + 1 = ((i + 1 : Nat) : Int) by omega]; exact IntWalk.i64_in _ (by omega)
    have e2 : IntKind.i64.wrap ((j : Int) - 1) = ((j - 1 : Nat) : Int) := by rw [show (j : Int) - 1 = ((j - 1 : Nat) : Int) by omega]; exact IntWalk.i64_in _ (by omega)
    refine ⟨?_, ?_⟩
    · refine wpChain_want rfl (fun K hK => ?_)
      refine wp_load_mid 56 (.tmp 20) rfl g (j * 2) rfl B.toList _ RJ4.out rfl rfl (by rw [Array.length_toList, HBs.out]; rfl) ?_
      rw [Array.toArray_toList]
      refine hK _ _ (inC trivial) ?_
      clear hK K
      refine wpChain_want rfl (fun K hK => ?_)
      refine wp_load_mid 56 (.tmp 24) rfl g (i * 2) rfl A.toList _ RI4.out rfl rfl (by rw [Array.length_toList, HAs.out]; rfl) ?_
      rw [Array.toArray_toList]
      refine hK _ _ (inC trivial) ?_
      clear hK K
      refine wpChain_step (fun K hK => ?_)
      go_simp
      refine hK _ _ (inC trivial) ?_
      clear hK K
      refine wpChain_want rfl (fun K hK => ?_)
      refine wp_store_mid 56 (.tmp 26) (.tmp 21) rfl g (i * 2) B rfl rfl TI.out (by rw [HBs.out]; rfl) HBo.out ?_
      rw [← H5.out]
      refine hK _ _ (inC trivial) ?_
      clear hK K
      refine wpChain_step (fun K hK => ?_)
      go_simp
      refine hK _ _ (inC trivial) ?_
      clear hK K
      refine wpChain_want rfl (fun K hK => ?_)
      refine wp_store_mid 56 (.tmp 27) (.tmp 25) rfl g (j * 2) A rfl rfl TJ.out (by rw [HAs.out]; rfl) HAo.out ?_
      rw [← H6.out]
      refine hK _ _ (inC trivial) ?_
      clear hK K
      refine wpChain_nil ?_
      go_wp2
      exact ⟨⟨i + 1, j - 1, (l'.set i l'[j]).set j l'[i], rfl, rfl, by omega, HR2, O6, HC6⟩, by simp [intOf]; omega⟩
    · refine wpChain_want rfl (fun K hK => ?_)
      refine wp_load_mid 56 (.tmp 24) rfl g (i * 2) rfl A.toList _ RI4.out rfl rfl (by rw [Array.length_toList, HAs.out]; rfl) ?_
      rw [Array.toArray_toList]
      refine hK _ _ (inC trivial) ?_
      clear hK K
      refine wpChain_want rfl (fun K hK => ?_)
      refine wp_load_mid 56 (.tmp 20) rfl g (j * 2) rfl B.toList _ RJ4.out rfl rfl (by rw [Array.length_toList, HBs.out]; rfl) ?_
      rw [Array.toArray_toList]
      refine hK _ _ (inC trivial) ?_
      clear hK K
      refine wpChain_step (fun K hK => ?_)
      go_simp
      refine hK _ _ (inC trivial) ?_
      clear hK K
      refine wpChain_want rfl (fun K hK => ?_)
      refine wp_store_mid 56 (.tmp 26) (.tmp 21) rfl g (i * 2) B rfl rfl TI.out (by rw [HBs.out]; rfl) HBo.out ?_
      rw [← H5.out]
      refine hK _ _ (inC trivial) ?_
      clear hK K
      refine wpChain_step (fun K hK => ?_)
      go_simp
      refine hK _ _ (inC trivial) ?_
      clear hK K
      refine wpChain_want rfl (fun K hK => ?_)
      refine wp_store_mid 56 (.tmp 27) (.tmp 25) rfl g (j * 2) A rfl rfl TJ.out (by rw [HAs.out]; rfl) HAo.out ?_
      rw [← H6.out]
      refine hK _ _ (inC trivial) ?_
      clear hK K
      refine wpChain_nil ?_
      go_wp2
      exact ⟨⟨i + 1, j - 1, (l'.set i l'[j]).set j l'[i], rfl, rfl, by omega, HR2, O6, HC6⟩, by simp [intOf]; omega⟩

set_option maxHeartbeats 2000000 in
theorem revS_calls (base : Nat) (v : Value) (l : List Sm) (w : World) (hl : ∀ x ∈ l, (smCells x).length = 35) (hone : ∀ x ∈ l, ∀ u ∈ smCells x, u.oneCell' = true) (hn : l.length ≤ 100000) (h : OwnR w base 28 35 smCells v l) :
    Calls Tryd.prog 29 #[v] w fun e w' => e = .returned (.tuple #[]) ∧ OwnR w' base 28 35 smCells v l.reverse ∧ Chg (fun b => v.ownBlock = some b) w w' := by
  by_cases hne : l = []
  case pos =>
    subst hne
    obtain ⟨p, c, rfl, h1, h2, h3, h4⟩ := h.form hl
    have H := Lib.hid h
    clear h h1 h2 h3 h4
    show Calls Tryd.prog 29 #[.slice p 0 c] w _
    go_enter Tryd.func29, Tryd.ntmps29
    go_wp2
    go_loopw [2, 3] (fun s2 s3 wq => s2 = .int .i64 0 ∧ s3 = .int .i64 (-1) ∧ wq = w) (fun _ _ _ => 0)
    case atStart => exact ⟨rfl, rfl, rfl⟩
    case round =>
      obtain ⟨rfl, rfl, rfl⟩ := hrel
      go_wp2
      go_end0
      exact ⟨rfl, H.out, Chg.refl _ _⟩
  obtain ⟨g, c, cur, rfl, hbg, hg, hnc, hcm, hcs, htake⟩ := h.form2 hne
  obtain ⟨n, hln⟩ : ∃ n, n = l.length := ⟨_, rfl⟩
  have hn1 : 1 ≤ n := by rw [hln]; exact List.length_pos_iff.2 hne
  rw [← hln] at h hn hnc ⊢
  have e1 : IntKind.i64.wrap ((n : Int) - 1) = ((n - 1 : Nat) : Int) := by rw [show (n : Int) - 1 = ((n - 1 : Nat) : Int) by omega]; exact IntWalk.i64_in _ (by omega)
  have HL := Lib.hid hl
  have HONE := Lib.hid hone
  have H := Lib.hid h
  have HLN := Lib.hid hln
  clear hl hone h hln hg hbg hcs htake hcm
  go_enter Tryd.func29, Tryd.ntmps29
  go_wp2
  clear e1
  go_loopw [2, 3] (fun s2 s3 wq => ∃ (i j : Nat) (l' : List Sm), s2 = .int .i64 i ∧ s3 = .int .i64 j ∧ i + j + 1 = n ∧ Hid (RevAt l l' i) ∧ Hid (OwnR wq base 28 35 smCells (.slice (some ⟨g, 0, none⟩) n c) l') ∧ Hid (Chg (fun b => (Value.slice (some ⟨g, 0, none⟩) n c).ownBlock = some b) w wq)) (fun _ s3 _ => (intOf s3).toNat)
  case atStart => exact ⟨0, n - 1, l, rfl, rfl, by omega, RevAt.start l, H.out, Chg.refl _ _⟩
  case round =>
    obtain ⟨i, j, l', rfl, rfl, hij, HR, HO, HC⟩ := hrel
    by_cases hlt : i < j
    case neg =>
      have hd := HR.out.done (by rw [← HLN.out]; omega)
      have d1 : decide ((i : Int) < (j : Int)) = false := by simp; omega
      rw [hd] at HO
      clear hd
      go_wp2
      go_end0
      exact ⟨rfl, HO.out, HC.out⟩
    have d1 : decide ((i : Int) < (j : Int)) = true := by simp; omega
    have hil : i < l'.length := by rw [HR.out.1, ← HLN.out]; omega
    have hjl : j < l'.length := by rw [HR.out.1, ← HLN.out]; omega
    have hkl : ∀ y ∈ l', (smCells y).length = 35 := fun y hy => HL.out y (HR.out.mem y hy)
    have hxi := hkl l'[i] (List.getElem_mem hil)
    have hxj := hkl l'[j] (List.getElem_mem hjl)
    have hoi := HONE.out l'[i] (HR.out.mem _ (List.getElem_mem hil))
    have hoj := HONE.out l'[j] (HR.out.mem _ (List.getElem_mem hjl))
    have HR2 : Hid (RevAt l ((l'.set i l'[j]).set j l'[i]) (i + 1)) := HR.out.step (by rw [← HLN.out]; exact hij) hlt hil hjl
    have ri := HO.out.at' hkl i hil
    have rj := HO.out.at' hkl j hjl
    rw [Nat.zero_add] at ri rj
    obtain ⟨A, hA⟩ : ∃ A, A = (smCells l'[i]).toArray := ⟨_, rfl⟩
    obtain ⟨B, hB⟩ : ∃ B, B = (smCells l'[j]).toArray := ⟨_, rfl⟩
    have eA : smCells l'[i] = A.toList := by rw [hA]
    have eB : smCells l'[j] = B.toList := by rw [hB]
    have EA := Lib.hid eA
    have EB := Lib.hid eB
    have HXI := Lib.hid hxi
    have HXJ := Lib.hid hxj
    have HKL := Lib.hid hkl
    rw [eA] at ri hxi hoi
    rw [eB] at rj hxj hoj
    have HAs : Hid (A.size = 35) := by show _ = _; simpa using hxi
    have HBs : Hid (B.size = 35) := by show _ = _; simpa using hxj
    have HAo : Hid (A.all (·.oneCell') = true) := by have := all_oneCell_toArray hoi; rw [Array.toArray_toList] at this; exact this
    have HBo : Hid (B.all (·.oneCell') = true) := by have := all_oneCell_toArray hoj; rw [Array.toArray_toList] at this; exact this
    have RI := Lib.hid ri
    have RJ := Lib.hid rj
    clear ri rj hA hB eA eB hoi hoj hxi hxj hkl
    have hin : i < n := by omega
    have hjn : j < n := by omega
    go_wp2_with fail
    refine wp_region_fork_at [0, 1, 2, 3, 4, 5, 8, 9, 6, 10] [7, 11, 12, 13, 14, 15] [11, 7, 12, 13, 14, 15] (by kernel_rfl) (by kernel_rfl) (fun _ _ d _ _ h => by cases d <;> exact h) ?_
    intro w4 U4 hW
    refine ⟨fun _ => True, trivial, ?_⟩
    haveI : Nonempty (InC (fun _ => True)) := ⟨⟨w4, trivial⟩⟩
    simp only [pick, List.getElem?_cons_zero, List.getElem?_cons_succ]
    repeat (refine wpStillC_step (fun K hK => ?_); go_simp; refine hK _ ?_; clear hK K)
    refine wpStillC_nil ?_
    have RI4 := Lib.hid (rangeAt_up RI.out U4)
    have RJ4 := Lib.hid (rangeAt_up RJ.out U4)
    obtain ⟨S1, T1⟩ := (HO.out.up U4).set HKL.out HXJ.out hil
    obtain ⟨S2, T2⟩ := S1.set (i := j) (x := l'[i]) (fun y hy => (List.mem_or_eq_of_mem_set hy).elim (HKL.out y) (fun e => e ▸ HXJ.out)) HXI.out (by simpa using hjl)
    rw [Nat.zero_add, EB.out] at S1 S2
    rw [Nat.zero_add, EB.out] at T2
    rw [Nat.zero_add] at T1 S2 T2
    rw [EA.out] at S2
    obtain ⟨W5, h5⟩ : ∃ W5, W5 = w4.setCells g (i * 35) B.toList := ⟨_, rfl⟩
    rw [← h5] at S2 T2
    have C5 : Chg (· = g) w4 W5 := by rw [h5]; exact chg_setCells g B.toList _ w4
    have TI : Hid (w4.there g (i * 35) B.size) := by show World.there _ _ _ _; rw [HBs.out]; exact T1
    have TJ : Hid (W5.there g (j * 35) A.size) := by show World.there _ _ _ _; rw [HAs.out]; exact T2
    obtain ⟨W6, h6⟩ : ∃ W6, W6 = W5.setCells g (j * 35) A.toList := ⟨_, rfl⟩
    rw [← h6] at S2
    have C6 : Chg (· = g) W5 W6 := by rw [h6]; exact chg_setCells g A.toList _ W5
    have O6 := Lib.hid S2
    have HC6 : Hid (Chg (fun b => (Value.slice (some ⟨g, 0, none⟩) n c).ownBlock = some b) w W6) :=
      HC.out.trans ((U4.chg _).trans ((C5.mono fun b _ e => by rw [e]; rfl).trans (C6.mono fun b _ e => by rw [e]; rfl)))
    have H5 := Lib.hid h5
    have H6 := Lib.hid h6
    clear S1 T1 S2 T2 C5 C6 U4 hW h5 h6
    have e1 : IntKind.i64.wrap ((i : Int) + 1) = ((i + 1 : Nat) : Int) := by rw [show (i : Int) + 1 = ((i + 1 : Nat) : Int) by omega]; exact IntWalk.i64_in _ (by omega)
    have e2 : IntKind.i64.wrap ((j : Int) - 1) = ((j - 1 : Nat) : Int) := by rw [show (j : Int) - 1 = ((j - 1 : Nat) : Int) by omega]; exact IntWalk.i64_in _ (by omega)
    refine ⟨?_, ?_⟩
    · refine wpChain_want rfl (fun K hK => ?_)
      refine wp_load_mid 28 (.tmp 20) rfl g (j * 35) rfl B.toList _ RJ4.out rfl rfl (by rw [Array.length_toList, HBs.out]; rfl) ?_
      rw [Array.toArray_toList]
      refine hK _ _ (inC trivial) ?_
      clear hK K
      refine wpChain_want rfl (fun K hK => ?_)
      refine wp_load_mid 28 (.tmp 24) rfl g (i * 35) rfl A.toList _ RI4.out rfl rfl (by rw [Array.length_toList, HAs.out]; rfl) ?_
      rw [Array.toArray_toList]
      refine hK _ _ (inC trivial) ?_
      clear hK K
      refine wpChain_step (fun K hK => ?_)
      go_simp
      refine hK _ _ (inC trivial) ?_
      clear hK K
      refine wpChain_want rfl (fun K hK => ?_)
      refine wp_store_mid 28 (.tmp 26) (.tmp 21) rfl g (i * 35) B rfl rfl TI.out (by rw [HBs.out]; rfl) HBo.out ?_
      rw [← H5.out]
      refine hK _ _ (inC trivial) ?_
      clear hK K
      refine wpChain_step (fun K hK => ?_)
      go_simp
      refine hK _ _ (inC trivial) ?_
      clear hK K
      refine wpChain_want rfl (fun K hK => ?_)
      refine wp_store_mid 28 (.tmp 27) (.tmp 25) rfl g (j * 35) A rfl rfl TJ.out (by rw [HAs.out]; rfl) HAo.out ?_
      rw [← H6.out]
      refine hK _ _ (inC trivial) ?_
      clear hK K
      refine wpChain_nil ?_
      go_wp2
      exact ⟨⟨i + 1, j - 1, (l'.set i l'[j]).set j l'[i], rfl, rfl, by omega, HR2, O6, HC6⟩, by simp [intOf]; omega⟩
    · refine wpChain_want rfl (fun K hK => ?_)
      refine wp_load_mid 28 (.tmp 24) rfl g (i * 35) rfl A.toList _ RI4.out rfl rfl (by rw [Array.length_toList, HAs.out]; rfl) ?_
      rw [Array.toArray_toList]
      refine hK _ _ (inC trivial) ?_
      clear hK K
      refine wpChain_want rfl (fun K hK => ?_)
      refine wp_load_mid 28 (.tmp 20) rfl g (j * 35) rfl B.toList _ RJ4.out rfl rfl (by rw [Array.length_toList, HBs.out]; rfl) ?_
      rw [Array.toArray_toList]
      refine hK _ _ (inC trivial) ?_
      clear hK K
      refine wpChain_step (fun K hK => ?_)
      go_simp
      refine hK _ _ (inC trivial) ?_
      clear hK K
      refine wpChain_want rfl (fun K hK => ?_)
      refine wp_store_mid 28 (.tmp 26) (.tmp 21) rfl g (i * 35) B rfl rfl TI.out (by rw [HBs.out]; rfl) HBo.out ?_
      rw [← H5.out]
      refine hK _ _ (inC trivial) ?_
      clear hK K
      refine wpChain_step (fun K hK => ?_)
      go_simp
      refine hK _ _ (inC trivial) ?_
      clear hK K
      refine wpChain_want rfl (fun K hK => ?_)
      refine wp_store_mid 28 (.tmp 27) (.tmp 25) rfl g (j * 35) A rfl rfl TJ.out (by rw [HAs.out]; rfl) HAo.out ?_
      rw [← H6.out]
      refine hK _ _ (inC trivial) ?_
      clear hK K
      refine wpChain_nil ?_
      go_wp2
      exact ⟨⟨i + 1, j - 1, (l'.set i l'[j]).set j l'[i], rfl, rfl, by omega, HR2, O6, HC6⟩, by simp [intOf]; omega⟩


end Go.Proofs.YtobcfhninchnkaaDoor

namespace Go.Proofs.YtobcfhninchnkaaDoor
open Go Go.RowKit
set_option linter.unusedVariables false
set_option maxRecDepth 100000

theorem Up.chgS {A B C : World} {S : Nat → Prop} (h : Up A B) (k : Chg S B C) (hs : ∀ g, S g → A.heap.size ≤ g) : Up A C :=
  ⟨k.os.trans h.os, k.tape.trans h.tape, k.output.trans h.output, Nat.le_trans h.size k.size, fun j hj => (k.block j (Nat.lt_of_lt_of_le hj h.size) (fun hS => by have := hs j hS; omega)).trans (h.block j hj)⟩

/-- the path, from the root down -/
def pathD (l : List Sh) (i : Nat) : List Sm :=
  if h : l.length ≤ 1 then [] else if i < hf l.length then treeS (l.drop (hf l.length)) :: pathD (l.take (hf l.length)) i else treeS (l.take (hf l.length)) :: pathD (l.drop (hf l.length)) (i - hf l.length)
termination_by l.length
decreasing_by
  · have := hf_lt (n := l.length) (by omega); rw [List.length_take]; omega
  · have := hf_pos l.length; rw [List.length_drop]; omega
theorem pathD_one {l : List Sh} (i : Nat) (h : l.length ≤ 1) : pathD l i = [] := by rw [pathD]; simp [h]
theorem pathD_left {l : List Sh} {i : Nat} (h : 2 ≤ l.length) (hi : i < hf l.length) : pathD l i = treeS (l.drop (hf l.length)) :: pathD (l.take (hf l.length)) i := by rw [pathD]; rw [dif_neg (by omega), if_pos hi]
theorem pathD_right {l : List Sh} {i : Nat} (h : 2 ≤ l.length) (hi : hf l.length ≤ i) : pathD l i = treeS (l.take (hf l.length)) :: pathD (l.drop (hf l.length)) (i - hf l.length) := by rw [pathD]; rw [dif_neg (by omega), if_neg (by omega)]
def pathS (l : List Sh) (i : Nat) : List Sm := (pathD l i).reverse
theorem pathD_ok : ∀ (k : Nat) (l : List Sh) (i : Nat), l.length = k → i < k → l.length ≤ 700 → (∀ x ∈ l, fineB x = true) → (∀ s ∈ pathD l i, s.ok) ∧ (pathD l i).length = (turnsS k i).length := by
  intro k
  induction k using Nat.strongRecOn with
  | ind k ih =>
    intro l i hl hi hn hf'
    by_cases h : l.length ≤ 1
    · rw [pathD_one i h, turnsS_one i (by omega)]; simp
    · have h1 := hf_lt (n := l.length) (by omega)
      have h2 := hf_pos l.length
      have f1 : ∀ x ∈ l.take (hf l.length), fineB x = true := fun x hx => hf' x (List.mem_of_mem_take hx)
      have f2 : ∀ x ∈ l.drop (hf l.length), fineB x = true := fun x hx => hf' x (List.mem_of_mem_drop hx)
      have l1 : (l.take (hf l.length)).length = hf l.length := by rw [List.length_take]; omega
      have l2 : (l.drop (hf l.length)).length = l.length - hf l.length := by rw [List.length_drop]
      have o1 : (treeS (l.take (hf l.length))).ok := treeS_ok (fun e => by rw [e] at l1; simp at l1; omega) (by omega) f1
      have o2 : (treeS (l.drop (hf l.length))).ok := treeS_ok (fun e => by rw [e] at l2; simp at l2; omega) (by omega) f2
      by_cases hc : i < hf l.length
      · rw [pathD_left (by omega) hc, ← hl, turnsS_left (by omega) hc]
        obtain ⟨a, b⟩ := ih (hf l.length) (by omega) (l.take (hf l.length)) i l1 hc (by omega) f1
        refine ⟨fun s hs => ?_, by rw [List.length_cons, List.length_cons, b]⟩
        rcases List.mem_cons.1 hs with rfl | hs
        · exact o2
        · exact a s hs
      · rw [pathD_right (by omega) (by omega), ← hl, turnsS_right (by omega) (by omega)]
        obtain ⟨a, b⟩ := ih (l.length - hf l.length) (by omega) (l.drop (hf l.length)) (i - hf l.length) l2 (by omega) (by omega) f2
        refine ⟨fun s hs => ?_, by rw [List.length_cons, List.length_cons, b]⟩
        rcases List.mem_cons.1 hs with rfl | hs
        · exact o1
        · exact a s hs

def provE (l : List Sh) (i : Int) : Int := if chkE l ≠ 0 then chkE l else if i < 0 ∨ (l.length : Int) ≤ i then 1 else 0
def provS (l : List Sh) (i : Int) : List Sm := if provE l i = 0 then pathS l i.toNat else []
theorem provE_zero {l : List Sh} {i : Int} (h : provE l i = 0) : chkE l = 0 ∧ 0 ≤ i ∧ i.toNat < l.length := by
  unfold provE at h
  split at h
  · rename_i h1; exact absurd h h1
  · rename_i h1
    split at h
    · omega
    · exact ⟨by omega, by omega, by omega⟩
theorem smCells_one (s : Sm) : ∀ u ∈ smCells s, u.oneCell' = true := by
  intro v hv
  rcases List.mem_append.1 hv with h | h
  · exact u8s_one _ v h
  · simp only [List.mem_cons, List.not_mem_nil, or_false] at h
    rcases h with rfl | rfl | rfl <;> rfl
theorem eltSum : EltT Tryd.prog 32 28 35 56 := ⟨rfl, _, _, rfl, rfl, by kernel_rfl, by kernel_rfl, by kernel_rfl⟩
theorem allocsTurn : Allocs Tryd.prog 56 2 := fun w =>
  ⟨(((Tryd.prog.info? 56).bind (·.zero)).getD undef).cells, by kernel_rfl, by kernel_rfl⟩

/-- a row of sums of the call's own and an error, returned -/
def RetP (w : World) (l : List Sm) (err : Int) (e : Ending) (w' : World) : Prop := ∃ v, e = .returned (.tuple #[v, .int .i64 err]) ∧ OwnR w' w.heap.size 28 35 smCells v l ∧ Up w w'

set_option maxHeartbeats 2000000 in
theorem prove_bad (p : Option Addr) (n c : Nat) (ls : List Sh) (i : Int) (w : World) (hn : n = ls.length) (h : Shares w p ls) (hc : n ≤ c) (hcm : c ≤ maxLen) (htab : Tabs w) (hz : provE ls i ≠ 0) :
    Calls Tryd.prog 11 #[.slice p n c, .int .i64 i] w (RetP w (provS ls i) (provE ls i)) := by
  have CK := Lib.hid (pcheck_calls p n c ls w hn h hc hcm)
  by_cases h0 : chkE ls = 0
  case neg =>
    have e1 : provE ls i = chkE ls := by unfold provE; rw [if_pos h0]
    have e2 : provS ls i = [] := by unfold provS; rw [e1, if_neg h0]
    rw [e1, e2]
    obtain ⟨ee, hee⟩ : ∃ ee, ee = chkE ls := ⟨_, rfl⟩
    rw [← hee] at CK h0 ⊢
    have d0 : (ee == 0) = false := by rw [beq_eq_false_iff_ne]; exact h0
    clear e1 e2 hee h htab hn h0
    go_enter Tryd.func11, Tryd.ntmps11
    go_wp2_with fail
    refine (CK.out).mono ?_
    rintro e w5 ⟨rfl, u5⟩
    have U5 := Lib.hid u5
    clear u5
    go_wp2
    go_ret2
    exact ⟨_, rfl, OwnR.nil, U5.out⟩
  obtain ⟨hne, hl6, hfi⟩ := chkE_ok h0
  rw [h0] at CK
  by_cases hi : i < 0 ∨ (n : Int) ≤ i
  case pos =>
    have e1 : provE ls i = 1 := by unfold provE; rw [if_neg (by omega), if_pos (by omega)]
    have e2 : provS ls i = [] := by unfold provS; rw [e1, if_neg (by omega)]
    rw [e1, e2]
    clear e1 e2 h htab hn h0 hfi hl6 hne
    go_enter Tryd.func11, Tryd.ntmps11
    go_wp2_with fail
    refine (CK.out).mono ?_
    rintro e w5 ⟨rfl, u5⟩
    have U5 := Lib.hid u5
    clear u5
    by_cases h1 : i < 0
    · have d1 : decide (i < 0) = true := by simp; omega
      go_wp2
      go_ret2
      exact ⟨_, rfl, OwnR.nil, U5.out⟩
    · have d1 : decide (i < 0) = false := by simp; omega
      have d2 : decide ((n : Int) ≤ i) = true := by simp; omega
      go_wp2
      go_ret2
      exact ⟨_, rfl, OwnR.nil, U5.out⟩
  exact absurd (by unfold provE; rw [if_neg (by omega), if_neg (by omega)]) hz

end Go.Proofs.YtobcfhninchnkaaDoor

namespace Go.Proofs.YtobcfhninchnkaaDoor
open Go Go.RowKit
set_option linter.unusedVariables false
set_option maxRecDepth 100000

set_option maxHeartbeats 2000000 in
theorem prove_good (p : Option Addr) (n c : Nat) (ls : List Sh) (i : Int) (w : World) (hn : n = ls.length) (h : Shares w p ls) (hc : n ≤ c) (hcm : c ≤ maxLen) (htab : Tabs w) (e1 : provE ls i = 0) :
    Calls Tryd.prog 11 #[.slice p n c, .int .i64 i] w (RetP w (provS ls i) (provE ls i)) := by
  have CK := Lib.hid (pcheck_calls p n c ls w hn h hc hcm)
  obtain ⟨h0, hi0, hil⟩ := provE_zero e1
  obtain ⟨hne, hl6, hfi⟩ := chkE_ok h0
  rw [h0] at CK
  have e2 : provS ls i = pathS ls i.toNat := by simp [provS, e1]
  rw [e1, e2]
  obtain ⟨j, rfl⟩ : ∃ j : Nat, i = j := ⟨i.toNat, by omega⟩
  rw [Int.toNat_natCast]
  have d1 : decide ((j : Int) < 0) = false := by simp
  have d2 : decide ((n : Int) ≤ (j : Int)) = false := by simp; omega
  obtain ⟨b, o, rfl, hrg⟩ := h hne
  have hjn : j < n := by omega
  have hn7 : n ≤ 700 := by omega
  have HSH := Lib.hid h
  have HFI := Lib.hid hfi
  have HN := Lib.hid hn
  have HT := Lib.hid htab
  have TU := Lib.hid fun W => turns_calls n j W hjn hn7
  clear h hrg hfi htab e1 e2 h0 hi0 hil hn hl6 hne
  go_enter Tryd.func11, Tryd.ntmps11
  go_wp2_with fail
  refine (CK.out).mono ?_
  rintro e w5 ⟨rfl, u5⟩
  have U5 := Lib.hid u5
  clear u5
  go_wp2_with fail
  refine (TU.out w5).mono ?_
  rintro e w6 ⟨v, rfl, o6, u6⟩
  obtain ⟨pt, ct, rfl, ht1, ht2, ht3, ht4⟩ := o6.form (fun x _ => tEnc_len x)
  have U6 : Hid (Up w w6) := Up.trans U5.out u6
  have OT := Lib.hid (o6.less U5.out.size)
  have HR := Lib.hid ht3
  obtain ⟨nt, hnt⟩ : ∃ nt, nt = (turnsS n j).length := ⟨_, rfl⟩
  have hnt7 : nt ≤ 700 := by have := turnsS_length n n j rfl; omega
  rw [← hnt] at ht1 OT ⊢
  have HNT := Lib.hid hnt
  clear o6 u6 ht3 ht4 hnt
  go_wp2_with fail
  go_loopw [0, 4, 28] (fun v0 v4 v28 wq => ∃ (r n' c' o' j' : Nat) (l' : List Sh) (pre : List (Nat × Nat)) (pp : List Sm), v0 = .slice (some ⟨b, o', none⟩) n' c' ∧ v28 = .int .i64 r ∧ Hid (n' = l'.length) ∧ j' < n' ∧ n' ≤ 700 ∧ n' ≤ c' ∧ c' ≤ maxLen ∧ pre.length = r ∧ Hid (pp.length = r) ∧ Hid (turnsS n j = pre ++ turnsS n' j') ∧ Hid (pathD ls j = pp ++ pathD l' j') ∧ Hid (∀ x ∈ l', fineB x = true) ∧ Hid (Shares w (some ⟨b, o', none⟩) l') ∧ Hid (OwnR wq w6.heap.size 28 35 smCells v4 pp) ∧ Hid (Up w6 wq) ∧ Hid (∀ s ∈ pp, s.ok))
    (fun _ _ v28 _ => nt - (intOf v28).toNat)
  case atStart => exact ⟨0, n, c, o, j, ls, [], [], rfl, rfl, HN.out, hjn, hn7, hc, hcm, rfl, rfl, rfl, rfl, HFI.out, HSH.out, OwnR.nil, Up.refl _, fun s hs => by cases hs⟩
  case round =>
    obtain ⟨r, n', c', o', j', l', pre, pp, rfl, rfl, HN', hj', hn7', hc', hcm', hpre, HPP, HTU, HPD, HFI', HSH', HO, HU, HOK⟩ := hrel
    have hlen := congrArg List.length HTU.out
    rw [List.length_append, hpre, ← HNT.out] at hlen
    obtain ⟨q4, c4, hv4, hf1, hf2, hf3, hf4⟩ := HO.out.form (fun x hx => smCells_len (HOK.out x hx).hash)
    subst hv4
    by_cases hr : r < nt
    case neg =>
      have hz : turnsS n' j' = [] := List.eq_nil_of_length_eq_zero (by omega)
      have hn1 : n' ≤ 1 := by
        rcases Nat.lt_or_ge 1 n' with h | h
        · rcases Nat.lt_or_ge j' (hf n') with h2 | h2
          · rw [turnsS_left h h2] at hz; cases hz
          · rw [turnsS_right h h2] at hz; cases hz
        · exact h
      have hpp : pathD ls j = pp := by rw [HPD.out, pathD_one j' (by rw [← HN'.out]; exact hn1), List.append_nil]
      have hpl : pp.length ≤ 700 := by rw [HPP.out]; omega
      have RV := Lib.hid (revS_calls w6.heap.size (.slice q4 pp.length c4) pp wr (fun x hx => smCells_len (HOK.out x hx).hash) (fun x _ => smCells_one x) (by omega) HO.out)
      have PS : Hid (pathS ls j = pp.reverse) := by show _ = _; unfold pathS; rw [hpp]
      rw [PS.out]
      have UW : Hid (Up w wr) := Up.trans U6.out HU.out
      have HB : Hid (∀ g, (Value.slice q4 pp.length c4).ownBlock = some g → w6.heap.size ≤ g) := HO.out.block
      have d3 : decide ((r : Int) < (nt : Int)) = false := by simp; omega
      clear hf1 hf2 hf3 hf4 hz hn1 hpp hpl hlen
      go_wp2_with fail
      refine RV.out.mono ?_
      rintro e w7 ⟨rfl, o7, c7⟩
      have O7 := Lib.hid (o7.less U6.out.size)
      have U7 : Hid (Up w w7) := Up.trans U6.out (HU.out.chgS c7 HB.out)
      clear o7 c7
      go_wp2
      go_ret2
      exact ⟨.slice q4 pp.length c4, rfl, by rw [PS.out]; exact O7.out, U7.out⟩
    have d3 : decide ((r : Int) < (nt : Int)) = true := by simp; omega
    have hn2 : 2 ≤ n' := by
      rcases Nat.lt_or_ge n' 2 with h | h
      · rw [turnsS_one j' (by omega)] at hlen; simp at hlen; omega
      · exact h
    have hlt := hf_lt hn2
    have hpos := hf_pos n'
    have hrt : r < (turnsS n j).length := by rw [← HNT.out]; exact hr
    obtain ⟨bt, ot, hpt, hrow⟩ := HR.out (by intro e; rw [e] at hrt; simp at hrt)
    have hrr := hrow r hrt
    subst hpt
    have l1 : (l'.take (hf n')).length = hf n' := by rw [List.length_take, ← HN'.out]; omega
    have l2 : (l'.drop (hf n')).length = n' - hf n' := by rw [List.length_drop, ← HN'.out]
    have f1 : ∀ x ∈ l'.take (hf n'), fineB x = true := fun x hx => HFI'.out x (List.mem_of_mem_take hx)
    have f2 : ∀ x ∈ l'.drop (hf n'), fineB x = true := fun x hx => HFI'.out x (List.mem_of_mem_drop hx)
    have o1 : (treeS (l'.take (hf n'))).ok := treeS_ok (fun e => by rw [e] at l1; simp at l1; omega) (by omega) f1
    have o2 : (treeS (l'.drop (hf n'))).ok := treeS_ok (fun e => by rw [e] at l2; simp at l2; omega) (by omega) f2
    have s1 := HSH'.out.take (hf n')
    have s2 := HSH'.out.drop (hf n')
    have T1 := Lib.hid fun W (hu : Up w W) => tree_calls (hf n') (some ⟨b, o', none⟩) (hf n') c' (l'.take (hf n')) W rfl l1.symm (by omega) (by omega) f1 (s1.up hu) (by omega) hcm' (HT.out.up hu)
    have T2 := Lib.hid fun W (hu : Up w W) => tree_calls (n' - hf n') (some ⟨b, o' + hf n' * 5, none⟩) (n' - hf n') (c' - hf n') (l'.drop (hf n')) W rfl l2.symm (by omega) (by omega) f2 (s2.up hu) (by omega) (by omega) (HT.out.up hu)
    obtain ⟨q, hq⟩ : ∃ q, q = hf n' := ⟨_, rfl⟩
    have UW : Hid (Up w wr) := Up.trans U6.out HU.out
    have hbt : Hid (bt < w6.heap.size) := rangeAt_lt hrr (by rw [tEnc_len]; omega)
    by_cases hj : j' < hf n'
    case pos =>
      have HTU2 : Hid (turnsS n j = (pre ++ [(q, 1)]) ++ turnsS q j') := by show _ = _; rw [HTU.out, turnsS_left hn2 hj, hq]; simp
      have HPD2 : Hid (pathD ls j = (pp ++ [treeS (l'.drop q)]) ++ pathD (l'.take q) j') := by show _ = _; rw [HPD.out, pathD_left (by rw [← HN'.out]; exact hn2) (by rw [← HN'.out]; exact hj), ← HN'.out, hq]; simp
      have ht : (turnsS n j)[r] = (q, 1) := by
        have : (turnsS n j)[r]? = some (q, 1) := by rw [HTU2.out, List.append_assoc, List.getElem?_append_right (by omega), hpre]; simp
        rw [List.getElem?_eq_getElem hrt] at this
        exact Option.some.inj this
      rw [ht] at hrr
      obtain ⟨TA, hTA⟩ : ∃ TA : Array Value, TA = #[.int .i64 (q : Nat), .int .i64 1] := ⟨_, rfl⟩
      have HTAs : Hid (TA.size = 2) := by show _ = _; rw [hTA]; rfl
      have HTAo : Hid (TA.all (·.oneCell') = true) := by show _ = _; rw [hTA]; simp [Value.oneCell']
      have HTA0 : Hid (TA[0]? = some (.int .i64 q)) := by show _ = _; rw [hTA]; rfl
      have HTA1 : Hid (TA[1]? = some (.int .i64 1)) := by show _ = _; rw [hTA]; rfl
      have RR : Hid (wr.rangeAt bt (ot + r * 2) TA.toList) := by rw [hTA]; exact rangeAt_up hrr HU.out
      rw [← hq] at hlt hpos hj l1 l2 f1 f2 o1 o2 s1 s2 T1 T2
      have HO2 := Lib.hid o2
      obtain ⟨A, hA⟩ : ∃ A, A = (smCells (treeS (l'.drop q))).toArray := ⟨_, rfl⟩
      rw [← hA] at T2
      have hAL : Hid (A.toList = smCells (treeS (l'.drop q))) := by show _ = _; rw [hA]
      have hAs : Hid (A.size = 35) := by have := smCells_len o2.hash; show _ = _; rw [hA]; simpa using this
      have HL1 := Lib.hid l1
      have HF1 := Lib.hid f1
      have HS1 := Lib.hid s1
      clear hTA hA hrr hrow ht hlen hq l1 l2 f1 f2 o1 o2 s1 s2 T1 hf1 hf2 hf3 hf4
      have hrn : r < nt := hr
      go_wp2_with (first | (refine wpList_load_arr rfl 56 (.tmp 30) rfl bt (ot + r * 2) rfl TA _ RR.out rfl rfl (by rw [HTAs.out]; rfl) ?_) | (refine wpList_allocG rfl 56 2 allocsTurn rfl ?_; intro W2 u2 z2 hz2; obtain ⟨Z2, hZ2, hb2⟩ := hz2; have U2 := Lib.hid u2; have HZ2 := Lib.hid hZ2; have HB2 := Lib.hid hb2; clear u2 z2 hZ2 hb2) | (refine wpList_store_row rfl 56 (.tmp 7) (.tmp 31) rfl _ TA rfl rfl 56 _ HB2.out (by rw [HTAs.out]; rfl) (by rw [HZ2.out, HTAs.out]) HTAo.out ?_; refine wpList_named ?_; intro W3 hW3; (have u3 : Up wr W3 := setRow_upN hW3 U2.out (Nat.le_refl _)); (have x3 := setRow_named hW3 HB2.out); (have U3 : Hid (Up wr W3) := u3); have X3 := Lib.hid x3; clear u3 x3 hW3))
      obtain ⟨bx, hbx⟩ : ∃ b, b = wr.heap.size := ⟨_, rfl⟩
      rw [← hbx] at X3 ⊢
      have HBX := Lib.hid hbx
      clear hbx HB2 U2 HZ2
      have hq1 : q ≤ c' := by omega
      have hq2 : q ≤ n' := by omega
      have hq3 : ¬ c' = q := by omega
      have hz := fun (z : UpW W3.drew) => (z.block (lt_of_block (w := W3.drew) X3.out)).trans X3.out
      have k0 : ∀ z : UpW W3.drew, z.w.cell? ⟨bx, 0, none⟩ = some (.int .i64 q) := fun z => (cell_of_row z.w bx 0 _ _ _ (hz z)).trans HTA0.out
      haveI := UpW.some_ W3.drew
      clear hz
      refine wp_region_up_k (by kernel_rfl) (by kernel_rfl) ?_
      intro R HRR
      have HRR' := Lib.hid HRR
      clear HRR
      repeat (refine wpQuiet_step (fun K hK => ?_); go_simp; refine hK _ ?_; clear hK K)
      refine wpQuiet_nil ?_
      refine HRR'.out _ ?_
      rintro w4 ⟨z, hz⟩
      have u4 : Up W3 w4 := by rw [hz]; exact Up.trans (Up.refl W3).drew z.up
      have q1' : w4.cell? ⟨bx, 1, none⟩ = some (.int .i64 1) := (cell_of_row w4 bx 1 _ _ _ ((u4.block _ (lt_of_block X3.out)).trans X3.out)).trans HTA1.out
      have U4 : Hid (Up wr w4) := Up.trans U3.out u4
      have UW4 : Hid (Up w w4) := Up.trans UW.out U4.out
      have OO := Lib.hid (HO.out.up U4.out)
      clear hz u4 HRR' k0 R hq3
      go_wp2_with fail
      refine (T2.out w4 UW4.out).mono ?_
      rintro e w5' ⟨rfl, u5⟩
      have UW5 : Hid (Up w w5') := Up.trans UW4.out u5
      have U5' : Hid (Up wr w5') := Up.trans U4.out u5
      have OO5 := Lib.hid (OO.out.up u5)
      obtain ⟨ii, zz, hi, hzz, hi1, hi2, hi3⟩ := eltSum.info
      have HI := Lib.hid hi
      have HZ := Lib.hid hzz
      have HI1 := Lib.hid hi1
      have hpl : pp.length ≤ 700 := by rw [HPP.out]; omega
      clear u5 hi hzz hi1 hi2 hi3 q1'
      go_wp2_with (first | ((with_reducible show wpList _ _ _ (Oper.mk _ (Op.buildSlice _ _ _) _ _ _ _ :: _) _ _); refine wpList_buildSlice rfl 32 28 1 #[(0, .tmp 47)] rfl A ii zz rfl HI.out HZ.out (by rw [HI1.out]; decide) (by rw [HI1.out]; decide) (by (simp only [List.map_toArray, List.map_cons, List.map_nil]; exact fill_row (zz := zz) HI1.out (by omega) A hAs.out)) ?_) | (refine wpList_named ?_; intro W6 hW6; at_builtin; (have hu : Up w5' W6 := by (rw [hW6]; exact (Up.refl w5').alloc _)); (have hrA : RowAt W6 (some ⟨w5'.heap.size, 0, none⟩) 35 smCells [treeS (l'.drop q)] := rowAt_one hAL.out (by (rw [hW6]; exact heap_new rfl))); refine wpList_appR rfl (.tmp 45) (.tmp 48) eltSum (by omega) rfl rfl w6.heap.size _ pp _ 1 1 [treeS (l'.drop q)] rfl rfl rfl (fun x hx => (List.mem_append.1 hx).elim (fun h => smCells_len (HOK.out x h).hash) (fun h => by (rw [List.mem_singleton.1 h]; exact smCells_len HO2.out.hash))) (fun x _ => smCells_one x) (OO5.out.up hu) hrA (by simp; omega) (Nat.le_trans HU.out.size (Nat.le_trans U5'.out.size hu.size)) ?_; intro p' m' d' w7 o7 b7 g7; have O7 := Lib.hid o7; (have U7 : Hid (Up w6 w7) := Below.trans (Up.trans HU.out (Up.trans U5'.out hu)) b7); clear o7 b7 hrA hu hW6))
      exact ⟨⟨r + 1, _, _, _, j', l'.take q, pre ++ [(q, 1)], pp ++ [treeS (l'.drop q)], rfl, by go_num, HL1.out.symm, by omega, by omega, by omega, by omega, by simp [hpre], by show _ = _; rw [List.length_append, HPP.out]; rfl, HTU2, HPD2, HF1, HS1, O7, U7, fun s hs => (List.mem_append.1 hs).elim (HOK.out s) (fun h => by rw [List.mem_singleton.1 h]; exact HO2.out)⟩, by simp [intOf]; omega⟩
    case neg =>
      have HTU2 : Hid (turnsS n j = (pre ++ [(q, 0)]) ++ turnsS (n' - q) (j' - q)) := by show _ = _; rw [HTU.out, turnsS_right hn2 (by omega), hq]; simp
      have HPD2 : Hid (pathD ls j = (pp ++ [treeS (l'.take q)]) ++ pathD (l'.drop q) (j' - q)) := by show _ = _; rw [HPD.out, pathD_right (by rw [← HN'.out]; exact hn2) (by rw [← HN'.out]; omega), ← HN'.out, hq]; simp
      have ht : (turnsS n j)[r] = (q, 0) := by
        have : (turnsS n j)[r]? = some (q, 0) := by rw [HTU2.out, List.append_assoc, List.getElem?_append_right (by omega), hpre]; simp
        rw [List.getElem?_eq_getElem hrt] at this
        exact Option.some.inj this
      rw [ht] at hrr
      obtain ⟨TA, hTA⟩ : ∃ TA : Array Value, TA = #[.int .i64 (q : Nat), .int .i64 0] := ⟨_, rfl⟩
      have HTAs : Hid (TA.size = 2) := by show _ = _; rw [hTA]; rfl
      have HTAo : Hid (TA.all (·.oneCell') = true) := by show _ = _; rw [hTA]; simp [Value.oneCell']
      have HTA0 : Hid (TA[0]? = some (.int .i64 q)) := by show _ = _; rw [hTA]; rfl
      have HTA1 : Hid (TA[1]? = some (.int .i64 0)) := by show _ = _; rw [hTA]; rfl
      have RR : Hid (wr.rangeAt bt (ot + r * 2) TA.toList) := by rw [hTA]; exact rangeAt_up hrr HU.out
      rw [← hq] at hlt hpos hj l1 l2 f1 f2 o1 o2 s1 s2 T1 T2
      have HO2 := Lib.hid o1
      obtain ⟨A, hA⟩ : ∃ A, A = (smCells (treeS (l'.take q))).toArray := ⟨_, rfl⟩
      rw [← hA] at T1
      have hAL : Hid (A.toList = smCells (treeS (l'.take q))) := by show _ = _; rw [hA]
      have hAs : Hid (A.size = 35) := by have := smCells_len o1.hash; show _ = _; rw [hA]; simpa using this
      have HL1 := Lib.hid l2
      have HF1 := Lib.hid f2
      have HS1 := Lib.hid s2
      clear hTA hA hrr hrow ht hlen hq l1 l2 f1 f2 o1 o2 s1 s2 T2 hf1 hf2 hf3 hf4
      have hrn : r < nt := hr
      go_wp2_with (first | (refine wpList_load_arr rfl 56 (.tmp 30) rfl bt (ot + r * 2) rfl TA _ RR.out rfl rfl (by rw [HTAs.out]; rfl) ?_) | (refine wpList_allocG rfl 56 2 allocsTurn rfl ?_; intro W2 u2 z2 hz2; obtain ⟨Z2, hZ2, hb2⟩ := hz2; have U2 := Lib.hid u2; have HZ2 := Lib.hid hZ2; have HB2 := Lib.hid hb2; clear u2 z2 hZ2 hb2) | (refine wpList_store_row rfl 56 (.tmp 7) (.tmp 31) rfl _ TA rfl rfl 56 _ HB2.out (by rw [HTAs.out]; rfl) (by rw [HZ2.out, HTAs.out]) HTAo.out ?_; refine wpList_named ?_; intro W3 hW3; (have u3 : Up wr W3 := setRow_upN hW3 U2.out (Nat.le_refl _)); (have x3 := setRow_named hW3 HB2.out); (have U3 : Hid (Up wr W3) := u3); have X3 := Lib.hid x3; clear u3 x3 hW3))
      obtain ⟨bx, hbx⟩ : ∃ b, b = wr.heap.size := ⟨_, rfl⟩
      rw [← hbx] at X3 ⊢
      have HBX := Lib.hid hbx
      clear hbx HB2 U2 HZ2
      have hq1 : q ≤ c' := by omega
      have hq2 : q ≤ n' := by omega
      have hq3 : ¬ c' = q := by omega
      have hz := fun (z : UpW W3.drew) => (z.block (lt_of_block (w := W3.drew) X3.out)).trans X3.out
      have k0 : ∀ z : UpW W3.drew, z.w.cell? ⟨bx, 0, none⟩ = some (.int .i64 q) := fun z => (cell_of_row z.w bx 0 _ _ _ (hz z)).trans HTA0.out
      haveI := UpW.some_ W3.drew
      clear hz
      refine wp_region_up_k (by kernel_rfl) (by kernel_rfl) ?_
      intro R HRR
      have HRR' := Lib.hid HRR
      clear HRR
      repeat (refine wpQuiet_step (fun K hK => ?_); go_simp; refine hK _ ?_; clear hK K)
      refine wpQuiet_nil ?_
      refine HRR'.out _ ?_
      rintro w4 ⟨z, hz⟩
      have u4 : Up W3 w4 := by rw [hz]; exact Up.trans (Up.refl W3).drew z.up
      have q1' : w4.cell? ⟨bx, 1, none⟩ = some (.int .i64 0) := (cell_of_row w4 bx 1 _ _ _ ((u4.block _ (lt_of_block X3.out)).trans X3.out)).trans HTA1.out
      have U4 : Hid (Up wr w4) := Up.trans U3.out u4
      have UW4 : Hid (Up w w4) := Up.trans UW.out U4.out
      have OO := Lib.hid (HO.out.up U4.out)
      clear hz u4 HRR' k0 R hq3
      go_wp2_with fail
      refine (T1.out w4 UW4.out).mono ?_
      rintro e w5' ⟨rfl, u5⟩
      have UW5 : Hid (Up w w5') := Up.trans UW4.out u5
      have U5' : Hid (Up wr w5') := Up.trans U4.out u5
      have OO5 := Lib.hid (OO.out.up u5)
      obtain ⟨ii, zz, hi, hzz, hi1, hi2, hi3⟩ := eltSum.info
      have HI := Lib.hid hi
      have HZ := Lib.hid hzz
      have HI1 := Lib.hid hi1
      have hpl : pp.length ≤ 700 := by rw [HPP.out]; omega
      clear u5 hi hzz hi1 hi2 hi3 q1'
      go_wp2_with (first | ((with_reducible show wpList _ _ _ (Oper.mk _ (Op.buildSlice _ _ _) _ _ _ _ :: _) _ _); refine wpList_buildSlice rfl 32 28 1 #[(0, .tmp 47)] rfl A ii zz rfl HI.out HZ.out (by rw [HI1.out]; decide) (by rw [HI1.out]; decide) (by (simp only [List.map_toArray, List.map_cons, List.map_nil]; exact fill_row (zz := zz) HI1.out (by omega) A hAs.out)) ?_) | (refine wpList_named ?_; intro W6 hW6; at_builtin; (have hu : Up w5' W6 := by (rw [hW6]; exact (Up.refl w5').alloc _)); (have hrA : RowAt W6 (some ⟨w5'.heap.size, 0, none⟩) 35 smCells [treeS (l'.take q)] := rowAt_one hAL.out (by (rw [hW6]; exact heap_new rfl))); refine wpList_appR rfl (.tmp 45) (.tmp 48) eltSum (by omega) rfl rfl w6.heap.size _ pp _ 1 1 [treeS (l'.take q)] rfl rfl rfl (fun x hx => (List.mem_append.1 hx).elim (fun h => smCells_len (HOK.out x h).hash) (fun h => by (rw [List.mem_singleton.1 h]; exact smCells_len HO2.out.hash))) (fun x _ => smCells_one x) (OO5.out.up hu) hrA (by simp; omega) (Nat.le_trans HU.out.size (Nat.le_trans U5'.out.size hu.size)) ?_; intro p' m' d' w7 o7 b7 g7; have O7 := Lib.hid o7; (have U7 : Hid (Up w6 w7) := Below.trans (Up.trans HU.out (Up.trans U5'.out hu)) b7); clear o7 b7 hrA hu hW6))
      exact ⟨⟨r + 1, _, _, _, (j' - q), l'.drop q, pre ++ [(q, 0)], pp ++ [treeS (l'.take q)], rfl, by go_num, HL1.out.symm, by omega, by omega, by omega, by omega, by simp [hpre], by show _ = _; rw [List.length_append, HPP.out]; rfl, HTU2, HPD2, HF1, HS1, O7, U7, fun s hs => (List.mem_append.1 hs).elim (HOK.out s) (fun h => by rw [List.mem_singleton.1 h]; exact HO2.out)⟩, by simp [intOf]; omega⟩

theorem prove_calls (p : Option Addr) (n c : Nat) (ls : List Sh) (i : Int) (w : World) (hn : n = ls.length) (h : Shares w p ls) (hc : n ≤ c) (hcm : c ≤ maxLen) (htab : Tabs w) :
    Calls Tryd.prog 11 #[.slice p n c, .int .i64 i] w (RetP w (provS ls i) (provE ls i)) := by
  by_cases e : provE ls i = 0
  · exact prove_good p n c ls i w hn h hc hcm htab e
  · exact prove_bad p n c ls i w hn h hc hcm htab e

end Go.Proofs.YtobcfhninchnkaaDoor
