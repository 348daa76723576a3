/- proofs.Climb$1, slices.IndexFunc and ContainsFunc at it. proofs.way: the closure; what its iterator hands out, plain. proofs.way$1: the iterator. -/
import Derived.Test.YtobcfhninchnkaaDoorPfC
import Derived.Test.YtobcfhninchnkaaDoorIt3
import Derived.Test.YtobcfhninchnkaaDoorMixIn
namespace Go.Proofs.YtobcfhninchnkaaDoor
open Go Go.RowKit
set_option linter.unusedVariables false
set_option maxRecDepth 100000

def rightB (s : Sm) : Bool := inB s.litres 1125899906842624 && inB s.price 1125899906842624 && inB s.cut 1125899906842624

set_option maxHeartbeats 1000000 in
theorem climb1_calls (s : Sm) (hs : s.hash.length = 32) (w : World) : Calls Tryd.prog 33 #[.agg (smCells s).toArray] w fun e w' => e = .returned (.bool (!rightB s)) ∧ Up w w' := by
  have a1 := sm_c32 hs
  have a2 := sm_c33 hs
  have a3 := sm_c34 hs
  obtain ⟨A, hA⟩ : ∃ A, A = (smCells s).toArray := ⟨_, rfl⟩
  rw [← hA] at a1 a2 a3 ⊢
  unfold rightB
  obtain ⟨l, hl⟩ : ∃ l, l = s.litres := ⟨_, rfl⟩
  obtain ⟨p, hp⟩ : ∃ l, l = s.price := ⟨_, rfl⟩
  obtain ⟨c, hc⟩ : ∃ l, l = s.cut := ⟨_, rfl⟩
  rw [← hl] at a1 ⊢
  rw [← hp] at a2 ⊢
  rw [← hc] at a3 ⊢
  obtain ⟨b1, h1⟩ : ∃ b, b = inB l 1125899906842624 := ⟨_, rfl⟩
  obtain ⟨b2, h2⟩ : ∃ b, b = inB p 1125899906842624 := ⟨_, rfl⟩
  obtain ⟨b3, h3⟩ : ∃ b, b = inB c 1125899906842624 := ⟨_, rfl⟩
  have I1 := Lib.hid fun w => pin_calls l 1125899906842624 w
  have I2 := Lib.hid fun w => pin_calls p 1125899906842624 w
  have I3 := Lib.hid fun w => pin_calls c 1125899906842624 w
  simp only [← h1, ← h2, ← h3] at I1 I2 I3 ⊢
  have HA1 := Lib.hid a1
  have HA2 := Lib.hid a2
  have HA3 := Lib.hid a3
  clear h1 h2 h3 hA a1 a2 a3 hl hp hc hs
  go_enter Tryd.func33, Tryd.ntmps33
  go_wp2_with ((with_reducible show wpList _ _ _ (Oper.mk _ (Op.load _ _) _ _ _ _ :: _) _ _); refine wpList_named ?_; intro W hW; (have x1 : W.heap[w.heap.size]? = some (.cells A 28 (0, 0)) := by (rw [hW]; exact heap_new rfl)); (have q1 := (cell_of_row W _ 32 _ _ _ x1).trans HA1.out); (have q2 := (cell_of_row W _ 33 _ _ _ x1).trans HA2.out); (have q3 := (cell_of_row W _ 34 _ _ _ x1).trans HA3.out); (have U : Hid (Up w W) := by (rw [hW]; exact (Up.refl w).alloc _)); clear hW x1)
  refine (I1.out W).mono ?_
  rintro e w1 ⟨rfl, rfl⟩
  cases b1
  case false =>
    go_wp2_with fail
    go_ret
    exact ⟨rfl, U.out⟩
  go_wp2_with fail
  refine (I2.out _).mono ?_
  rintro e w1 ⟨rfl, rfl⟩
  cases b2
  case false =>
    go_wp2_with fail
    go_ret
    exact ⟨rfl, U.out⟩
  go_wp2_with fail
  refine (I3.out _).mono ?_
  rintro e w1 ⟨rfl, rfl⟩
  go_wp2_with fail
  go_ret
  exact ⟨rfl, U.out⟩

def badIdx : List Sm → Nat → Int
  | [], _ => -1
  | s :: r, j => if rightB s then badIdx r (j + 1) else j
theorem badIdx_neg : ∀ (l : List Sm) (j : Nat), decide (0 ≤ badIdx l j) = !(l.all rightB)
  | [], j => by simp [badIdx]
  | s :: r, j => by
    rw [badIdx, List.all_cons]
    cases h : rightB s
    · simp
    · rw [if_pos rfl, badIdx_neg r (j + 1)]; simp

set_option maxHeartbeats 1000000 in
theorem indexFunc_calls (p : Option Addr) (n c : Nat) (l : List Sm) (w : World) (hn : n = l.length) (hl : ∀ s ∈ l, s.hash.length = 32) (h : RowAt w p 35 smCells l) (hc : n ≤ c) (hcm : c ≤ maxLen) :
    Calls Tryd.prog 54 #[.slice p n c, .func (.func 33) #[] #[]] w fun e w' => e = .returned (.int .i64 (badIdx l 0)) ∧ Up w w' := by
  have HN := Lib.hid hn
  have HL := Lib.hid hl
  have H := Lib.hid h
  clear hn hl h
  go_enter Tryd.func54, Tryd.ntmps54
  go_wp2
  go_loopw [4, 8] (fun v4 v8 wq => ∃ (i : Nat), i ≤ n ∧ v8 = .int .i64 i ∧ v4 = .int .i64 0 ∧ Hid (badIdx l 0 = badIdx (l.drop i) i) ∧ Hid (Up w wq)) (fun _ v8 _ => n - (intOf v8).toNat)
  case atStart => exact ⟨0, by omega, rfl, rfl, rfl, Up.refl _⟩
  case round =>
    obtain ⟨i, hi, rfl, rfl, HB, HU⟩ := hrel
    by_cases hlt : i < n
    case neg =>
      have hv : Hid (badIdx l 0 = -1) := by show _ = _; rw [HB.out, List.drop_of_length_le (by rw [← HN.out]; omega)]; rfl
      have d1 : decide ((i : Int) < (n : Int)) = false := by simp; omega
      go_wp2
      go_ret
      exact ⟨by rw [hv.out] <;> rfl, HU.out⟩
    have hi2 : i < l.length := by rw [← HN.out]; exact hlt
    have hb2 := HB.out
    rw [List.drop_eq_getElem_cons hi2, badIdx] at hb2
    obtain ⟨b, o, rfl, hrg⟩ := H.out (by rintro rfl; simp at hi2)
    have g := hrg i hi2
    have hx := HL.out _ (List.getElem_mem hi2)
    obtain ⟨x, hxx⟩ : ∃ x, x = l[i] := ⟨_, rfl⟩
    rw [← hxx] at g hb2 hx
    have CX := Lib.hid fun W => climb1_calls x hx W
    have HAs : Hid ((smCells x).toArray.size = 35) := by have := smCells_len hx; show _ = _; simpa using this
    have G := Lib.hid (show wr.rangeAt b (o + i * 35) (smCells x).toArray.toList from rangeAt_up g HU.out)
    obtain ⟨A, hA⟩ : ∃ A, A = (smCells x).toArray := ⟨_, rfl⟩
    rw [← hA] at CX HAs G
    have HB2 := Lib.hid hb2
    obtain ⟨rb, hrb⟩ : ∃ rb, rb = rightB x := ⟨_, rfl⟩
    rw [← hrb] at HB2 CX
    clear hA g hb2 hx hrg hxx hrb hi2
    go_wp2_with (refine wpList_load_arr rfl 28 (.tmp 14) rfl b (o + i * 35) rfl A _ G.out rfl rfl (by rw [HAs.out]; rfl) ?_)
    refine (CX.out wr).mono ?_
    rintro e w1 ⟨rfl, u1⟩
    have U1 : Hid (Up w w1) := Up.trans HU.out u1
    clear u1
    cases rb
    case false =>
      have hv : Hid (badIdx l 0 = i) := by show _ = _; rw [HB2.out]; rfl
      go_wp2
      go_ret
      exact ⟨by rw [hv.out] <;> rfl, U1.out⟩
    have HB3 : Hid (badIdx l 0 = badIdx (l.drop (i + 1)) (i + 1)) := by show _ = _; rw [HB2.out]; rfl
    have hib : (i : Int) + 1 ≤ 9223372036854775807 := by unfold maxLen at hcm; omega
    have e1 : IntKind.i64.wrap ((i : Int) + 1) = ((i + 1 : Nat) : Int) := IntWalk.i64_in _ (by omega)
    clear hib
    go_wp2
    exact ⟨⟨i + 1, by omega, rfl, rfl, HB3, U1⟩, by simp [intOf]; omega⟩

set_option maxHeartbeats 1000000 in
theorem containsFunc_calls (p : Option Addr) (n c : Nat) (l : List Sm) (w : World) (hn : n = l.length) (hl : ∀ s ∈ l, s.hash.length = 32) (h : RowAt w p 35 smCells l) (hc : n ≤ c) (hcm : c ≤ maxLen) :
    Calls Tryd.prog 32 #[.slice p n c, .func (.func 33) #[] #[]] w fun e w' => e = .returned (.bool (!(l.all rightB))) ∧ Up w w' := by
  have I := Lib.hid (indexFunc_calls p n c l w hn hl h hc hcm)
  have hb := badIdx_neg l 0
  obtain ⟨r, hr⟩ : ∃ r, r = badIdx l 0 := ⟨_, rfl⟩
  obtain ⟨bb, hbb⟩ : ∃ bb, bb = !(l.all rightB) := ⟨_, rfl⟩
  rw [← hr] at I hb
  rw [← hbb] at hb ⊢
  clear hr hbb hn hl h
  go_enter Tryd.func32, Tryd.ntmps32
  go_wp2_with fail
  refine I.out.mono ?_
  rintro e w1 ⟨rfl, u1⟩
  have U1 := Lib.hid u1
  clear u1
  go_wp2
  go_ret
  exact ⟨rfl, U1.out⟩

end Go.Proofs.YtobcfhninchnkaaDoor

namespace Go.Proofs.YtobcfhninchnkaaDoor
open Go Go.RowKit
set_option linter.unusedVariables false
set_option maxRecDepth 100000

/-- the two sides of a node on the way up -/
def sideA (t : Nat × Nat) (p s : Sm) : Sm := if t.2 = 1 then s else p
def sideB (t : Nat × Nat) (p s : Sm) : Sm := if t.2 = 1 then p else s
def upText (t : Nat × Nat) (p s : Sm) : List UInt8 := nodeT (sideA t p s) (sideB t p s)
def upSum (t : Nat × Nat) (p s : Sm) : Sm := nodeS (sideA t p s) (sideB t p s)
def climbL : Sm → List (Nat × Nat) → List Sm → List (List UInt8 × Sm)
  | s, t :: ts, p :: ps => (upText t p s, upSum t p s) :: climbL (upSum t p s) ts ps
  | _, _, _ => []
def wayS (x : Sh) (ts : List (Nat × Nat)) (ps : List Sm) : List (List UInt8 × Sm) := (leafT x, leafS x) :: climbL (leafS x) ts ps
/-- the sum after r rounds -/
def climbAt : Sm → List (Nat × Nat) → List Sm → Nat → Sm
  | s, _, _, 0 => s
  | s, t :: ts, p :: ps, r + 1 => climbAt (upSum t p s) ts ps r
  | s, _, _, _ + 1 => s
theorem climbAt_zero (s : Sm) (ts : List (Nat × Nat)) (ps : List Sm) : climbAt s ts ps 0 = s := by simp [climbAt]
theorem climbL_length : ∀ (s : Sm) (ts : List (Nat × Nat)) (ps : List Sm), ts.length = ps.length → (climbL s ts ps).length = ts.length
  | s, [], [], _ => rfl
  | s, t :: ts, p :: ps, h => by rw [climbL, List.length_cons, List.length_cons, climbL_length _ ts ps (by simpa using h)]
theorem climbL_split : ∀ (s : Sm) (ts : List (Nat × Nat)) (ps : List Sm) (r : Nat) (h : r < ts.length) (h2 : r < ps.length),
    climbL s ts ps = climbL s (ts.take r) (ps.take r) ++ (upText ts[r] ps[r] (climbAt s ts ps r), upSum ts[r] ps[r] (climbAt s ts ps r)) :: climbL (climbAt s ts ps (r + 1)) (ts.drop (r + 1)) (ps.drop (r + 1))
  | s, t :: ts, p :: ps, 0, _, _ => by simp [climbL, climbAt]
  | s, t :: ts, p :: ps, r + 1, h, h2 => by
    have ih := climbL_split (upSum t p s) ts ps r (by simpa using h) (by simpa using h2)
    simp only [climbL, List.take_succ_cons, List.cons_append, climbAt, List.drop_succ_cons, List.getElem_cons_succ]
    rw [ih]
theorem climbAt_succ : ∀ (s : Sm) (ts : List (Nat × Nat)) (ps : List Sm) (r : Nat) (h : r < ts.length) (h2 : r < ps.length), climbAt s ts ps (r + 1) = upSum ts[r] ps[r] (climbAt s ts ps r)
  | s, t :: ts, p :: ps, 0, _, _ => by simp [climbAt]
  | s, t :: ts, p :: ps, r + 1, h, h2 => by
    have ih := climbAt_succ (upSum t p s) ts ps r (by simpa using h) (by simpa using h2)
    simp only [climbAt, List.getElem_cons_succ] at ih ⊢
    exact ih
theorem climbL_take : ∀ (s : Sm) (ts : List (Nat × Nat)) (ps : List Sm) (r : Nat) (h : r < ts.length) (h2 : r < ps.length),
    climbL s (ts.take (r + 1)) (ps.take (r + 1)) = climbL s (ts.take r) (ps.take r) ++ [(upText ts[r] ps[r] (climbAt s ts ps r), upSum ts[r] ps[r] (climbAt s ts ps r))]
  | s, t :: ts, p :: ps, 0, _, _ => by simp [climbL, climbAt]
  | s, t :: ts, p :: ps, r + 1, h, h2 => by
    have ih := climbL_take (upSum t p s) ts ps r (by simpa using h) (by simpa using h2)
    simp only [climbL, List.take_succ_cons, List.cons_append, climbAt, List.getElem_cons_succ] at ih ⊢
    rw [ih]

/-- numbers up to a bound -/
structure Sm.le (s : Sm) (M : Int) : Prop where
  hash : s.hash.length = 32
  litres : 0 ≤ s.litres ∧ s.litres ≤ M
  price : 0 ≤ s.price ∧ s.price ≤ M
  cut : 0 ≤ s.cut ∧ s.cut ≤ M
theorem Sm.le.ok {s : Sm} {M : Int} (h : s.le M) (hM : M ≤ 1152921504606846976) : s.ok :=
  ⟨h.hash, ⟨h.litres.1, by have := h.litres; omega⟩, ⟨h.price.1, by have := h.price; omega⟩, ⟨h.cut.1, by have := h.cut; omega⟩⟩
theorem Sm.le.mono {s : Sm} {M M' : Int} (h : s.le M) (hM : M ≤ M') : s.le M' :=
  ⟨h.hash, ⟨h.litres.1, by have := h.litres; omega⟩, ⟨h.price.1, by have := h.price; omega⟩, ⟨h.cut.1, by have := h.cut; omega⟩⟩
theorem rightB_le {s : Sm} (hs : s.hash.length = 32) (h : rightB s = true) : s.le 1125899906842624 := by
  simp only [rightB, inB, Bool.and_eq_true, decide_eq_true_eq] at h
  exact ⟨hs, h.1.1, h.1.2, h.2⟩
theorem nodeS_le {s t : Sm} {M N : Int} (hs : s.le M) (ht : t.le N) : (nodeS s t).le (M + N) :=
  ⟨Sha.sum_length _, ⟨by have := hs.litres; have := ht.litres; show 0 ≤ s.litres + t.litres; omega, by have := hs.litres; have := ht.litres; show s.litres + t.litres ≤ _; omega⟩,
    ⟨by have := hs.price; have := ht.price; show 0 ≤ s.price + t.price; omega, by have := hs.price; have := ht.price; show s.price + t.price ≤ _; omega⟩,
    ⟨by have := hs.cut; have := ht.cut; show 0 ≤ s.cut + t.cut; omega, by have := hs.cut; have := ht.cut; show s.cut + t.cut ≤ _; omega⟩⟩
theorem upSum_le {t : Nat × Nat} {p s : Sm} {M N : Int} (hp : p.le N) (hs : s.le M) : (upSum t p s).le (M + N) := by
  unfold upSum sideA sideB
  split
  · exact nodeS_le hs hp
  · rw [Int.add_comm]; exact nodeS_le hp hs
theorem leafS_le {x : Sh} (h : fineB x = true) : (leafS x).le 1125899906842624 := by
  obtain ⟨_, h1, h2, h3⟩ := fineB_wf h
  exact ⟨Sha.sum_length _, ⟨h1.1, by show x.litres ≤ _; omega⟩, ⟨h2.1, by show x.price ≤ _; omega⟩, ⟨h3.1, by show x.cut ≤ _; omega⟩⟩

/-- what way's iterator reads -/
structure KW (W0 : World) (hb : Nat) (n i : Nat) (x : Sh) (v : Value) (W : World) : Prop where
  keep : ∀ k, k < W0.heap.size → W.heap[k]? = W0.heap[k]?
  b0 : W.heap[hb]? = some (.cells #[.int .i64 n] 3 (0, 0))
  b1 : W.heap[hb + 1]? = some (.cells #[.int .i64 i] 3 (0, 0))
  b2 : W.heap[hb + 2]? = some (.cells (shCells x) 38 (0, 0))
  b3 : W.heap[hb + 3]? = some (.cells #[v] 32 (0, 0))
  size : W0.heap.size ≤ W.heap.size
theorem KW.up {W0 : World} {hb n i : Nat} {x : Sh} {v : Value} {W W' : World} (h : KW W0 hb n i x v W) (hu : Up W W') : KW W0 hb n i x v W' :=
  ⟨fun k hk => (hu.block k (Nat.lt_of_lt_of_le hk h.size)).trans (h.keep k hk), (hu.block _ (lt_of_block h.b0)).trans h.b0, (hu.block _ (lt_of_block h.b1)).trans h.b1, (hu.block _ (lt_of_block h.b2)).trans h.b2, (hu.block _ (lt_of_block h.b3)).trans h.b3, Nat.le_trans h.size hu.size⟩
def KWk (W0 : World) (hb : Nat) (k : Nat) : Prop := k < W0.heap.size ∨ (hb ≤ k ∧ k < hb + 4)
theorem KW.round {W0 : World} {hb n i : Nat} {x : Sh} {v : Value} {W W' : World} (h : KW W0 hb n i x v W) (hs : W.heap.size ≤ W'.heap.size) (hk : ∀ k, KWk W0 hb k → k < W.heap.size → W'.heap[k]? = W.heap[k]?) : KW W0 hb n i x v W' :=
  ⟨fun k hlt => (hk k (.inl hlt) (Nat.lt_of_lt_of_le hlt h.size)).trans (h.keep k hlt),
   (hk hb (.inr ⟨by omega, by omega⟩) (lt_of_block h.b0)).trans h.b0, (hk _ (.inr ⟨by omega, by omega⟩) (lt_of_block h.b1)).trans h.b1, (hk _ (.inr ⟨by omega, by omega⟩) (lt_of_block h.b2)).trans h.b2, (hk _ (.inr ⟨by omega, by omega⟩) (lt_of_block h.b3)).trans h.b3, Nat.le_trans h.size hs⟩
theorem KW.chg {W0 : World} {hb n i : Nat} {x : Sh} {v : Value} {W W' : World} {S : Nat → Prop} (h : KW W0 hb n i x v W) (hc : Chg S W W') (hS : ∀ k, KWk W0 hb k → ¬ S k) : KW W0 hb n i x v W' :=
  h.round hc.size fun k hk hlt => hc.block k hlt (hS k hk)

set_option maxHeartbeats 1000000 in
theorem way_calls (n i : Nat) (x : Sh) (v : Value) (p : Option Addr) (m c : Nat) (hv : v = .slice p m c) (w : World) :
    Calls Tryd.prog 35 #[.int .i64 n, .int .i64 i, .agg (shCells x), v] w fun e w' => e = .returned (.func (.func 55) #[] #[.pointer (some ⟨w.heap.size + 2, 0, none⟩), .pointer (some ⟨w.heap.size, 0, none⟩), .pointer (some ⟨w.heap.size + 1, 0, none⟩), .pointer (some ⟨w.heap.size + 3, 0, none⟩)]) ∧ Up w w' ∧ w'.heap.size = w.heap.size + 4 ∧ KW w w.heap.size n i x v w' := by
  subst hv
  obtain ⟨A, hA⟩ : ∃ A, A = shCells x := ⟨_, rfl⟩
  have HA := Lib.hid hA
  rw [← hA]
  clear hA
  go_enter Tryd.func35, Tryd.ntmps35
  go_wp2
  go_ret
  refine ⟨rfl, (((((Up.refl w).alloc _).alloc _).alloc _).alloc _), by simp, ?_⟩
  have s1 : ∀ o : Obj, (w.alloc o).heap.size = w.heap.size + 1 := fun o => by simp
  have hu := (((((Up.refl w).alloc (.cells #[.int .i64 n] 3 (0, 0))).alloc (.cells #[.int .i64 i] 3 (0, 0))).alloc (.cells A 38 (0, 0))).alloc (.cells #[.slice p m c] 32 (0, 0)))
  refine ⟨fun k hk => hu.block k hk, ?_, ?_, ?_, ?_, hu.size⟩
  · rw [heap_old (by simp +arith), heap_old (by simp +arith), heap_old (by simp +arith), heap_new rfl]
  · rw [heap_old (by simp +arith), heap_old (by simp +arith), heap_new (by simp)]
  · rw [heap_old (by simp +arith), heap_new (by simp), HA.out]
  · rw [heap_new (by simp)]

end Go.Proofs.YtobcfhninchnkaaDoor

namespace Go.Proofs.YtobcfhninchnkaaDoor
open Go Go.RowKit Go.Shelf
attribute [local go_sem] Oper.semAt_some wide_depth
set_option linter.unusedVariables false
set_option maxRecDepth 100000

/-- what is handed out for a text and a sum -/
def wayE (O : Nat → Prop) (y : List UInt8 × Sm) (args : Array Value) (W : World) : Prop := ∃ v, args = #[v, .agg (smCells y.2).toArray] ∧ Own W 0 v y.1 ∧ (∀ g, v.ownBlock = some g → ¬ O g) ∧ ∀ k, O k → k < W.heap.size
structure WayOk (W0 : World) (n i : Nat) (x : Sh) (p : Option Addr) (ps : List Sm) (c : Nat) : Prop where
  hi : i < n
  hn : n ≤ 700
  fine : fineB x = true
  len : ps.length = (turnsS n i).length
  right : ∀ s ∈ ps, s.le 1125899906842624
  row : RowAt W0 p 35 smCells ps
  cap : ps.length ≤ c
  capm : c ≤ maxLen
  tabs : Tabs W0
theorem KW.tabs {W0 : World} {hb n i : Nat} {x : Sh} {v : Value} {W : World} (h : KW W0 hb n i x v W) (ht : Tabs W0) : Tabs W := ⟨ht.1.kept (h.keep _ ht.1.lt), ht.2.kept (h.keep _ ht.2.lt)⟩
theorem KW.row {W0 : World} {hb n i : Nat} {x : Sh} {v : Value} {W : World} {p : Option Addr} {ps : List Sm} (h : KW W0 hb n i x v W) (hl : ∀ s ∈ ps, s.hash.length = 32) (hr : RowAt W0 p 35 smCells ps) : RowAt W p 35 smCells ps := by
  intro hne
  obtain ⟨b, o, e, hi⟩ := hr hne
  refine ⟨b, o, e, fun j hj => rangeAt_kept' (hi j hj) (h.keep b (rangeAt_lt (hi j hj) ?_))⟩
  rw [smCells_len (hl _ (List.getElem_mem hj))]
  omega

set_option maxHeartbeats 4000000 in
theorem way1_gives (W0 : World) (n i : Nat) (x : Sh) (p : Option Addr) (ps : List Sm) (c : Nat) (hb m : Nat) (hm : m = ps.length) (H : WayOk W0 n i x p ps c) (hhb : W0.heap.size ≤ hb) :
    IterGivesO Tryd.prog 55 #[.pointer (some ⟨hb + 2, 0, none⟩), .pointer (some ⟨hb, 0, none⟩), .pointer (some ⟨hb + 1, 0, none⟩), .pointer (some ⟨hb + 3, 0, none⟩)] wayE (fun _ => False) (KWk W0 hb) (wayS x (turnsS n i).reverse ps) (KW W0 hb n i x (.slice p m c)) := by
  intro nn l J Jx W hI0 hJ hJx hY h0
  have HI0 := Lib.hid hI0
  have HYY := Lib.hid hY
  have HJ := Lib.hid hJ
  have HJX := Lib.hid hJx
  have HJ0 := Lib.hid h0
  have HH := Lib.hid H
  have hx := (fineB_wf H.fine).1
  have LF := Lib.hid fun W' (k : KW W0 hb n i x (.slice p m c) W') => leaf_calls x hx W' (k.tabs H.tabs)
  have LT := Lib.hid fun W' => leafText_callsO x hx W'
  have TU := Lib.hid fun W' => turns_calls n i W' H.hi H.hn
  have hls := (leafS_le H.fine).hash
  obtain ⟨A, hA⟩ : ∃ A, A = shCells x := ⟨_, rfl⟩
  have hAs : Hid (A.size = 5) := by show _ = _; rw [hA]; rfl
  have HAe := Lib.hid hA
  obtain ⟨D, hD⟩ : ∃ D, D = (smCells (leafS x)).toArray := ⟨_, rfl⟩
  have hDs : Hid (D.size = 35) := by have := smCells_len hls; show _ = _; rw [hD]; simpa using this
  have hDc : Hid (D.all (·.oneCell') = true) := by rw [hD]; exact smCells_all _
  have HDe := Lib.hid hD
  rw [← hA, ← hD] at LF
  rw [← hA] at LT
  have B2 : Hid (W.heap[hb + 2]? = some (.cells A 38 (0, 0))) := by rw [hA]; exact hI0.b2
  have HM := Lib.hid hm
  clear hI0 hY hJ hJx h0 hx hA hD hls H hm
  refine callsIn_of_wp Tryd.func55 rfl trivial ?_ rfl
  simp only [Tryd.ntmps55, List.size_toArray, List.length_cons, List.length_nil, Nat.reduceAdd, Nat.reduceSub, Array.replicate_succ, Array.replicate_zero, List.push_toArray, List.append_toArray, List.nil_append, List.cons_append]
  gi_wp2_with (first | (refine wpListIn_load_arr wideF rfl 38 (.tmp 1) rfl (hb + 2) 0 rfl A _ (rangeAt_row B2.out) rfl rfl (by rw [hAs.out]; rfl) ?_))
  refine ⟨trivial, callsIn_wide.2 ((LF.out W HI0.out).mono ?_)⟩
  rintro e w1 ⟨rfl, u1⟩
  have U1 := Lib.hid u1
  clear u1
  gi_wp2_with (first | (refine wpListIn_allocG wideF rfl 28 35 allocsSum rfl ?_; intro W2 u2 z2 hz2; obtain ⟨Z2, hZ2, hb2⟩ := hz2; have U2 := Lib.hid u2; have HZ2 := Lib.hid hZ2; have HB2 := Lib.hid hb2; clear u2 z2 hZ2 hb2) | (refine wpListIn_store_row wideF rfl 28 (.tmp 6) (.tmp 13) rfl _ D rfl rfl 28 _ HB2.out (by rw [hDs.out]; rfl) (by rw [HZ2.out, hDs.out]) hDc.out ?_))
  obtain ⟨b6, hb6⟩ : ∃ b, b = w1.heap.size := ⟨_, rfl⟩
  have HB3 := HB2.out
  rw [← hb6] at HB3 ⊢
  refine wpIn_named ?_
  intro W3 hW3
  have u3 : Up w1 W3 := setRow_upN hW3 U2.out (by omega)
  have x3 := setRow_named hW3 HB3
  have U3 : Hid (Up W W3) := Up.trans U1.out u3
  have X3 := Lib.hid x3
  have K3 := Lib.hid (HI0.out.up U3.out)
  have h6 : W.heap.size ≤ b6 := by rw [hb6]; exact U1.out.size
  clear hW3 u3 x3 HB3 HB2 U2 HZ2 hb6 U1 LF B2
  refine wpIn_region_mix_at wideF [0, 1, 3] [2, 4, 5] (by kernel_rfl) (by kernel_rfl) (fun _ _ d _ _ h => by cases d <;> exact h) ?_
  intro W4 u4 hW4
  have U4 : Hid (Up W W4) := Up.trans U3.out u4
  have X4 : Hid (W4.heap[b6]? = some (.cells D 28 (0, 0))) := by show _ = _; rw [hW4]; exact X3.out
  have K4 := Lib.hid (K3.out.up u4)
  clear hW4 u4 K3 X3 U3
  obtain ⟨C, hC⟩ : ∃ C : World → Prop, C = fun W' => KW W0 hb n i x (.slice p m c) W' ∧ W'.heap[b6]? = some (.cells D 28 (0, 0)) := ⟨_, rfl⟩
  have CI : Hid (∀ W', KW W0 hb n i x (.slice p m c) W' → W'.heap[b6]? = some (.cells D 28 (0, 0)) → C W') := fun W' h1 h2 => by rw [hC]; exact ⟨h1, h2⟩
  have CO : Hid (∀ y : InC C, KW W0 hb n i x (.slice p m c) y.w ∧ y.w.heap[b6]? = some (.cells D 28 (0, 0))) := fun y => Eq.mp (congrFun hC y.w) y.h
  refine ⟨C, CI.out W4 K4.out X4.out, ?_⟩
  haveI : Nonempty (InC C) := ⟨⟨W4, CI.out W4 K4.out X4.out⟩⟩
  have CA : Hid (∀ y : InC C, y.w.heap[hb + 2]? = some (.cells A 38 (0, 0))) := fun y => by rw [HAe.out]; exact (CO.out y).1.b2
  clear hC
  simp only [pick, List.getElem?_cons_zero, List.getElem?_cons_succ]
  repeat (first | (refine wpStillC_load_arr (by rfl) 38 (.tmp 1) rfl (hb + 2) 0 rfl A _ (fun w' hw' => by (obtain ⟨z, rfl⟩ := hw'; exact rangeAt_row (CA.out z))) rfl rfl (by rw [hAs.out]; rfl) ?_) | (refine wpStillC_load_arr (by rfl) 28 (.tmp 6) rfl b6 0 rfl D _ (fun w' hw' => by (obtain ⟨z, rfl⟩ := hw'; exact rangeAt_row (CO.out z).2)) rfl rfl (by rw [hDs.out]; rfl) ?_) | (refine wpStillC_step (fun K hK => ?_); go_simp; refine hK _ ?_; clear hK K))
  refine wpStillC_nil ?_
  refine wpChainIn_want rfl (fun K hK => ?_)
  go_simp
  refine ⟨trivial, callsIn_wide.2 ((LT.out W4).mono ?_)⟩
  rintro e w5 ⟨vl, rfl, ovl, u5⟩
  obtain ⟨pl, cl, rfl, hl1, hl2, hl3⟩ := ovl.form
  have U5 : Hid (Up W w5) := Up.trans U4.out u5
  have X5 : Hid (w5.heap[b6]? = some (.cells D 28 (0, 0))) := (u5.block _ (lt_of_block X4.out)).trans X4.out
  have K5 := Lib.hid (K4.out.up u5)
  refine hK _ _ (inC (CI.out w5 K5.out X5.out)) ?_
  clear hK K u5
  have J5 := HJ.out (fun _ => False) (fun k => k = b6) [] W w5 HJ0.out (fun k h => .inr (h ▸ h6)) (U5.out.chg _)
  obtain ⟨fn, tmps, assign, body, hy, hR⟩ := HYY.out (fun k => k = b6) [] (leafT x, leafS x) (climbL (leafS x) (turnsS n i).reverse ps) w5 #[.slice pl (leafT x).length cl, .agg D] rfl J5 ⟨_, by rw [HDe.out], ovl.less (Nat.zero_le _), fun g hg e => by have h1 := ovl.block g hg; have h2 := lt_of_block X4.out; omega, fun k hk => by rw [hk]; exact lt_of_block X5.out⟩
  have HRR := Lib.hid hR
  clear hR J5 hl1 hl2 hl3 ovl
  refine wpChainIn_want rfl (fun K hK => ?_)
  go_simp
  refine HRR.out.mono ?_
  clear HRR hy
  rintro e W6 (⟨rfl, hJ6, hsz, hk6⟩ | ⟨rfl, hJx6, hsz, hk6⟩)
  case inr =>
    have K6 := K5.out.round hsz (fun k hk => hk6 k (.inl hk))
    have X6 := (hk6 b6 (.inr rfl) (lt_of_block X5.out)).trans X5.out
    have HC6 := Lib.hid (CI.out W6 K6 X6)
    have HJX6 := Lib.hid hJx6
    clear hJx6 hk6 X6 K6
    refine hK _ _ (inC HC6.out) ?_
    clear hK K
    refine wpChainIn_want rfl (fun K hK => ?_)
    go_simp
    refine hK _ _ (inC HC6.out) ?_
    clear hK K
    refine wpChainIn_nil ?_
    gi_wp2
    refine bodyPost_ret (results_none rfl _ _ _) rfl ?_
    exact ⟨⟨_, rfl⟩, .inr ⟨_, _, _, rfl, HJX6.out⟩⟩
  have K6 := Lib.hid (K5.out.round hsz (fun k hk => hk6 k (.inl hk)))
  have X6 := Lib.hid ((hk6 b6 (.inr rfl) (lt_of_block X5.out)).trans X5.out)
  have HC6 := Lib.hid (CI.out W6 K6.out X6.out)
  have J6 := Lib.hid hJ6
  have q0 : W6.cell? ⟨hb, 0, none⟩ = some (.int .i64 n) := cell_of_one K6.out.b0
  have q1 : W6.cell? ⟨hb + 1, 0, none⟩ = some (.int .i64 i) := cell_of_one K6.out.b1
  clear hJ6 hk6 hsz K5 X5 K4 X4 U4 U5
  refine hK _ _ (inC HC6.out) ?_
  clear hK K
  refine wpChainIn_want rfl (fun K hK => ?_)
  go_simp
  refine hK _ _ (inC HC6.out) ?_
  clear hK K HC6 CI CO CA
  refine wpChainIn_nil ?_
  gi_wp2
  refine ⟨trivial, callsIn_wide.2 ((TU.out W6).mono ?_)⟩
  rintro e w7 ⟨v, rfl, o7, u7⟩
  clear q0 q1
  have htl := turnsS_length n n i rfl
  have hn7 := HH.out.hn
  obtain ⟨pt, ct, rfl, ht1, ht2, ht3, ht4⟩ := o7.form (fun x _ => tEnc_len x)
  have RV := revT_calls W6.heap.size _ _ w7 (fun x _ => tEnc_len x) (fun x _ => tEnc_one x) (by omega) o7
  have hbk := o7.block
  obtain ⟨rts, hrts⟩ : ∃ rts, rts = (turnsS n i).reverse := ⟨_, rfl⟩
  have HRL : Hid (rts.length = ps.length) := by show _ = _; rw [hrts, List.length_reverse, HH.out.len]
  have hnt : (turnsS n i).length = rts.length := by rw [hrts, List.length_reverse]
  obtain ⟨nt, hnt2⟩ : ∃ nt, nt = rts.length := ⟨_, rfl⟩
  rw [← hrts, hnt, ← hnt2] at RV
  rw [hnt, ← hnt2] at hbk ⊢
  have RVH := Lib.hid RV
  have HNT := Lib.hid hnt2
  have K7 := Lib.hid (K6.out.up u7)
  have X7 := Lib.hid ((u7.block _ (lt_of_block X6.out)).trans X6.out)
  have U7 := Lib.hid u7
  have HBK := Lib.hid hbk
  have hnt7 : nt ≤ 700 := by omega
  have HRTS := Lib.hid hrts
  clear RV ht3 ht4 o7 u7 hbk htl hn7 hnt hnt2 hrts ht1 ht2
  gi_wp2
  refine ⟨trivial, callsIn_wide.2 (RVH.out.mono ?_)⟩
  rintro e w8 ⟨rfl, o8, c8⟩
  obtain ⟨O2, hO2⟩ : ∃ O2 : Nat → Prop, O2 = fun k => k = b6 ∨ (Value.slice pt nt ct).ownBlock = some k := ⟨_, rfl⟩
  have OI : Hid (∀ k, O2 k → k = b6 ∨ (Value.slice pt nt ct).ownBlock = some k) := fun k hk => by rw [hO2] at hk; exact hk
  have O6 : Hid (O2 b6) := by rw [hO2]; exact .inl rfl
  have OV : Hid (∀ g, (Value.slice pt nt ct).ownBlock = some g → O2 g) := fun g hg => by rw [hO2]; exact .inr hg
  have U8 : Up W6 w8 := U7.out.chgS c8 HBK.out
  have OT8 := Lib.hid o8
  have hkw : ∀ k, KWk W0 hb k → k < W6.heap.size := fun k hk => by
    have h3 := lt_of_block K6.out.b3
    have := K6.out.size
    rcases hk with hk | hk <;> omega
  have K8 := Lib.hid (K7.out.chg c8 fun k hk hS => by have := hkw k hk; have := HBK.out k hS; omega)
  have X8 := Lib.hid ((c8.block b6 (lt_of_block X7.out) (fun hS => by have := HBK.out b6 hS; have := lt_of_block X6.out; omega)).trans X7.out)
  have J8 : Hid (J O2 [(leafT x, leafS x)] w8) := HJ.out (fun k => k = b6) O2 _ W6 w8 J6.out (fun k hk => (OI.out k hk).elim .inl (fun h => .inr (HBK.out k h))) (U8.chg _)
  have hb6W := lt_of_block X6.out
  clear hO2 o8 c8 hkw U8 J6 K6 K7 X6 X7 U7 HBK RVH
  have HB6 : Hid (∀ k, KWk W0 hb k → k ≠ b6) := fun k hk => by
    have h3 := lt_of_block HI0.out.b3
    have := HI0.out.size
    rcases hk with hk | hk <;> omega
  gi_wp2
  gi_loopw [27] (fun v27 wq => ∃ r : Nat, r ≤ nt ∧ v27 = .int .i64 r ∧ Hid (J O2 ((leafT x, leafS x) :: climbL (leafS x) (rts.take r) (ps.take r)) wq) ∧ Hid (KW W0 hb n i x (.slice p m c) wq) ∧ Hid (wq.heap[b6]? = some (.cells (smCells (climbAt (leafS x) rts ps r)).toArray 28 (0, 0))) ∧ Hid (OwnR wq W6.heap.size 56 2 tEnc (.slice pt nt ct) rts) ∧ Hid ((climbAt (leafS x) rts ps r).le ((r + 1 : Nat) * 1125899906842624)))
    (fun v27 _ => nt - (intOf v27).toNat)
  case atStart => exact ⟨0, by omega, rfl, J8, K8, by rw [climbAt_zero, ← HDe.out]; exact X8, OT8, by rw [climbAt_zero]; exact (leafS_le HH.out.fine).mono (by omega)⟩
  case round =>
    obtain ⟨r, hr, rfl, HJr, HK, HX, HO, HL⟩ := hrel
    by_cases hlt : r < nt
    case neg =>
      have e : Hid (wayS x (turnsS n i).reverse ps = (leafT x, leafS x) :: climbL (leafS x) (rts.take r) (ps.take r)) := by
        show _ = _
        rw [← HRTS.out, List.take_of_length_le (by rw [← HNT.out]; omega), List.take_of_length_le (by rw [← HRL.out, ← HNT.out]; omega)]
        rfl
      have d1 : decide ((r : Int) < (nt : Int)) = false := by simp; omega
      gi_wp2
      go_end0
      exact ⟨⟨_, rfl⟩, .inl ⟨O2, by rw [e.out]; exact HJr.out⟩⟩
    have hr1 : r < rts.length := by rw [← HNT.out]; exact hlt
    have hr2 : r < ps.length := by rw [← HRL.out]; exact hr1
    have d1 : decide ((r : Int) < (nt : Int)) = true := by simp; omega
    -- the turn
    obtain ⟨t, ht⟩ : ∃ t, t = rts[r] := ⟨_, rfl⟩
    have htb : rts ≠ [] := by rintro rfl; simp at hr1
    obtain ⟨bt, ct', cur, hv, q1, hbt, q2, q3, q4, q5⟩ := HO.out.form2 htb
    injection hv with hv1 hv2 hv3
    have hrt := HO.out
    rw [hv1] at hrt
    have hrr := hrt.at' (fun y _ => tEnc_len y) r hr1
    rw [← ht, Nat.zero_add] at hrr
    obtain ⟨TA, hTA⟩ : ∃ TA : Array Value, TA = #[.int .i64 (t.1 : Nat), .int .i64 (t.2 : Nat)] := ⟨_, rfl⟩
    have HTAs : Hid (TA.size = 2) := by show _ = _; rw [hTA]; rfl
    have HTAo : Hid (TA.all (·.oneCell') = true) := by show _ = _; rw [hTA]; simp [Value.oneCell']
    have HTA1 : Hid (TA[1]? = some (.int .i64 t.2)) := by show _ = _; rw [hTA]; rfl
    have RR : Hid (wr.rangeAt bt (r * 2) TA.toList) := by rw [hTA]; exact hrr
    -- the path
    obtain ⟨pr, hpr⟩ : ∃ pr, pr = ps[r] := ⟨_, rfl⟩
    have hlh : ∀ s ∈ ps, s.hash.length = 32 := fun s hs => (HH.out.right s hs).hash
    have hprl : pr.le 1125899906842624 := by rw [hpr]; exact HH.out.right _ (List.getElem_mem hr2)
    obtain ⟨bp, op, hpp, hprow⟩ := (HK.out.row hlh HH.out.row) (by rintro rfl; simp at hr2)
    have hp1 := hprow r hr2
    rw [← hpr] at hp1
    -- the sum
    obtain ⟨s, hs⟩ : ∃ s, s = climbAt (leafS x) rts ps r := ⟨_, rfl⟩
    have hsuc := climbAt_succ (leafS x) rts ps r hr1 hr2
    rw [← ht, ← hpr, ← hs] at hsuc
    have htake := climbL_take (leafS x) rts ps r hr1 hr2
    rw [← ht, ← hpr, ← hs] at htake
    have hsp := climbL_split (leafS x) rts ps r hr1 hr2
    rw [← ht, ← hpr, ← hs] at hsp
    have hsl := HL.out
    rw [← hs] at hsl
    have hle := upSum_le (t := t) hprl hsl
    have HL2 : Hid ((climbAt (leafS x) rts ps (r + 1)).le ((r + 1 + 1 : Nat) * 1125899906842624)) := by rw [hsuc]; exact hle.mono (by omega)
    have hsok : s.ok := hsl.ok (by omega)
    have hpok : pr.ok := hprl.ok (by omega)
    rw [← hs] at HX
    obtain ⟨S, hS⟩ : ∃ S, S = (smCells s).toArray := ⟨_, rfl⟩
    obtain ⟨A', hA'⟩ : ∃ A', A' = (smCells pr).toArray := ⟨_, rfl⟩
    rw [← hS] at HX
    have hSs : Hid (S.size = 35) := by have := smCells_len hsok.hash; show _ = _; rw [hS]; simpa using this
    have hSc : Hid (S.all (·.oneCell') = true) := by rw [hS]; exact smCells_all _
    have hPs : Hid (A'.size = 35) := by have := smCells_len hpok.hash; show _ = _; rw [hA']; simpa using this
    have hPc : Hid (A'.all (·.oneCell') = true) := by rw [hA']; exact smCells_all _
    have RP : Hid (wr.rangeAt bp (op + r * 35) A'.toList) := by rw [hA']; exact hp1
    have HSE := Lib.hid hS
    have HPE := Lib.hid hA'
    have HPOK := Lib.hid hpok
    have HSOK := Lib.hid hsok
    have HSUC := Lib.hid hsuc
    have HTAKE := Lib.hid htake
    have HSP := Lib.hid hsp
    have hbpw : bp < W0.heap.size := by
      obtain ⟨b', o', e', h'⟩ := HH.out.row (by rintro rfl; simp at hr2)
      rw [hpp] at e'
      injection e' with e'
      injection e' with e1 e2
      subst e1
      exact rangeAt_lt (h' r hr2) (by rw [smCells_len (hlh _ (List.getElem_mem hr2))]; omega)
    have HBP := Lib.hid hbpw
    have HR2 := Lib.hid hr2
    have hrm : r < m := by rw [HM.out]; exact hr2
    have HPT := Lib.hid hv1
    have hbt6 : bt ≠ b6 := by omega
    clear q1 q2 q3 q4 q5 hTA hrr hrt hbt cur htb ct' hlh hprl hp1 hprow hsuc htake hsp hsl hle hsok hpok hS hA' hs ht hpr hr1 hr2 hv2 hv3 hbpw HL
    subst hpp
    subst hv1
    gi_wp2_with (first | (refine wpListIn_load_arr wideF rfl 56 (.tmp 30) rfl bt (r * 2) rfl TA _ RR.out rfl rfl (by rw [HTAs.out]; rfl) ?_) | (refine wpListIn_allocG wideF rfl 56 2 allocsTurn rfl ?_; intro W2 u2 z2 hz2; obtain ⟨Z2, hZ2, hb2⟩ := hz2; have U2 := Lib.hid u2; have HZ2 := Lib.hid hZ2; have HB2 := Lib.hid hb2; clear u2 z2 hZ2 hb2) | (refine wpListIn_store_row wideF rfl 56 (.tmp 9) (.tmp 31) rfl _ TA rfl rfl 56 _ HB2.out (by rw [HTAs.out]; rfl) (by rw [HZ2.out, HTAs.out]) HTAo.out ?_))
    obtain ⟨bx, hbx⟩ : ∃ b, b = wr.heap.size := ⟨_, rfl⟩
    have HB3 := HB2.out
    rw [← hbx] at HB3 ⊢
    refine wpIn_named ?_
    intro W3 hW3
    have u3 : Up wr W3 := setRow_upN hW3 U2.out (by omega)
    have x3 := setRow_named hW3 HB3
    have U3 := Lib.hid u3
    have X3 := Lib.hid x3
    have K3 := Lib.hid (HK.out.up u3)
    have S3 := Lib.hid ((u3.block b6 (lt_of_block HX.out)).trans HX.out)
    have P3 := Lib.hid (rangeAt_up RP.out u3)
    have T3 := Lib.hid (HO.out.up u3)
    have J3 := Lib.hid (HJ.out O2 O2 _ wr W3 HJr.out (fun k hk => .inl hk) (u3.chg _))
    clear hW3 u3 x3 HB3 HB2 U2 HZ2 hbx HX RP HO HJr HK RR U3
    refine wpIn_region_alloc2 wideF [0, 1, 2, 3, 4] [7, 8] 5 6 _ _ rfl rfl 28 35 allocsSum rfl rfl rfl rfl (fun d h h2 => by injection h with h; injection h2 with h2; omega) (by kernel_rfl) (by kernel_rfl) (fun _ _ d _ _ h => by cases d <;> exact h) ?_
    intro W4 u4 hW4
    refine ⟨fun W' => Up W3 W', u4, fun A B h1 h2 => Up.trans h1 h2, ?_⟩
    haveI : Nonempty (InC (fun W' => Up W3 W')) := ⟨⟨W4, u4⟩⟩
    have q3 : ∀ y : InC (fun W' => Up W3 W'), y.w.cell? ⟨hb + 3, 0, none⟩ = some (.slice (some ⟨bp, op, none⟩) m c) := fun y => cell_of_one ((y.h.block _ (lt_of_block K3.out.b3)).trans K3.out.b3)
    simp only [pick, List.getElem?_cons_zero, List.getElem?_cons_succ]
    repeat (first | (refine wpStillC_load_arr (by rfl) 28 (.tmp 34) rfl bp (op + r * 35) rfl A' _ (fun w' hw' => by (obtain ⟨z, rfl⟩ := hw'; exact rangeAt_up P3.out z.h)) rfl rfl (by rw [hPs.out]; rfl) ?_) | (refine wpStillC_load_arr (by rfl) 28 (.tmp 6) rfl b6 0 rfl S _ (fun w' hw' => by (obtain ⟨z, rfl⟩ := hw'; exact rangeAt_row ((z.h.block _ (lt_of_block S3.out)).trans S3.out))) rfl rfl (by rw [hSs.out]; rfl) ?_) | (refine wpStillC_step (fun K hK => ?_); go_simp; refine hK _ ?_; clear hK K))
    refine wpStillC_nil ?_
    intro b10 b11 W5 u5 g10 g11 hne z10 z11
    obtain ⟨Z10, hZ10, y10⟩ := z10
    obtain ⟨Z11, hZ11, y11⟩ := z11
    have U5 : Up W3 W5 := Up.trans u4 u5
    have g10' : W3.heap.size ≤ b10 := Nat.le_trans u4.size g10
    have g11' : W3.heap.size ≤ b11 := Nat.le_trans u4.size g11
    have HG10 := Lib.hid g10'
    have HG11 := Lib.hid g11'
    have HNE := Lib.hid hne
    clear q3
    simp only [Act.put, List.setIfInBounds_toArray, List.set_cons_succ, List.set_cons_zero]
    refine wpChainIn_want rfl (fun K hK => ?_)
    refine Oper.wpIn_of_wp wideF (fun c e => by cases e) ?_
    refine wp_store_row 28 (.tmp 10) (.tmp 35) rfl b10 A' rfl rfl 28 _ y10 (by rw [hPs.out]; rfl) (by rw [hZ10, hPs.out]) hPc.out ?_
    have U6 : Up W3 (W5.setRow b10 A') := below_setRow U5 g10' _
    have y10' : (W5.setRow b10 A').heap[b10]? = some (.cells A' 28 (0, 0)) := setRow_heap _ _ _ _ _ _ y10
    have y11' : (W5.setRow b10 A').heap[b11]? = some (.cells Z11 28 (0, 0)) := by rw [setRow_other _ _ _ _ (Ne.symm hne)]; exact y11
    refine hK _ _ (inC U6) ?_
    clear hK K
    simp only [Act.put]
    refine wpChainIn_want rfl (fun K hK => ?_)
    refine Oper.wpIn_of_wp wideF (fun c e => by cases e) ?_
    refine wp_store_row 28 (.tmp 11) (.tmp 36) rfl b11 S rfl rfl 28 _ y11' (by rw [hSs.out]; rfl) (by rw [hZ11, hSs.out]) hSc.out ?_
    obtain ⟨W6', hW6'⟩ : ∃ W6', W6' = (W5.setRow b10 A').setRow b11 S := ⟨_, rfl⟩
    have U6' : Up W3 W6' := by rw [hW6']; exact below_setRow U6 g11' _
    have Y11 : Hid (W6'.heap[b11]? = some (.cells S 28 (0, 0))) := by show _ = _; rw [hW6']; exact setRow_heap _ _ _ _ _ _ y11'
    have Y10 : Hid (W6'.heap[b10]? = some (.cells A' 28 (0, 0))) := by show _ = _; rw [hW6', setRow_other _ _ _ _ hne]; exact y10'
    rw [← hW6']
    refine hK _ _ (inC U6') ?_
    clear hK K
    simp only [Act.put]
    refine wpChainIn_nil ?_
    have HU6 := Lib.hid U6'
    clear hW6' U6' y10' y11' U6 y10 y11 hZ10 hZ11 Z10 Z11 hne g10 g11 g10' g11' u4 u5 U5 hW4
    have k9 : W6'.cell? ⟨bx, 1, none⟩ = some (.int .i64 t.2) := (cell_of_row W6' bx 1 _ _ _ ((HU6.out.block _ (lt_of_block X3.out)).trans X3.out)).trans HTA1.out
    by_cases htt : t.2 = 1
    case pos =>
      have d9 : (((t.2 : Nat) : Int) == 1) = true := by rw [beq_iff_eq]; omega
      have HSA : Hid (sideA t pr s = s) := by show _ = _; unfold sideA; rw [if_pos htt]
      have HSB : Hid (sideB t pr s = pr) := by show _ = _; unfold sideB; rw [if_pos htt]
      gi_wp2_with (first | ((with_reducible show wpListIn _ _ _ _ _ (Oper.mk _ (Op.load _ (Operand.tmp 11)) _ _ _ _ :: _) _ _); refine wpListIn_load_arr wideF rfl 28 (.tmp 11) rfl b11 0 rfl S _ (rangeAt_row Y11.out) rfl rfl (by rw [hSs.out]; rfl) ?_) | ((with_reducible show wpListIn _ _ _ _ _ (Oper.mk _ (Op.load _ (Operand.tmp 10)) _ _ _ _ :: _) _ _); refine wpListIn_load_arr wideF rfl 28 (.tmp 10) rfl b10 0 rfl A' _ (rangeAt_row Y10.out) rfl rfl (by rw [hPs.out]; rfl) ?_) | ((with_reducible show wpListIn _ _ _ _ _ (Oper.mk _ (Op.store _ (Operand.tmp 10) _) _ _ _ _ :: _) _ _); refine wpListIn_store_row wideF rfl 28 (.tmp 10) (.tmp 40) rfl b10 S rfl rfl 28 _ Y10.out (by rw [hSs.out]; rfl) (by rw [hPs.out, hSs.out]) hSc.out ?_; refine wpListIn_named ?_; intro W7 hW7; (have u7 : Up W3 W7 := setRow_upN hW7 HU6.out HG10.out); (have y10 := setRow_named hW7 Y10.out); (have y11 : W7.heap[b11]? = some (.cells S 28 (0, 0)) := by (rw [hW7, setRow_other _ _ _ _ (Ne.symm HNE.out)]; exact Y11.out)); have HU7 := Lib.hid u7; have Y10b := Lib.hid y10; have Y11b := Lib.hid y11; clear hW7 u7 y10 y11) | ((with_reducible show wpListIn _ _ _ _ _ (Oper.mk _ (Op.store _ (Operand.tmp 11) _) _ _ _ _ :: _) _ _); refine wpListIn_store_row wideF rfl 28 (.tmp 11) (.tmp 41) rfl b11 A' rfl rfl 28 _ Y11b.out (by rw [hPs.out]; rfl) (by rw [hPs.out, hSs.out]) hPc.out ?_; refine wpListIn_named ?_; intro W8 hW8; (have u8 := setRow_upN hW8 HU7.out HG11.out); (have r11 := setRow_named hW8 Y11b.out); (have r10 : W8.heap[b10]? = some (.cells S 28 (0, 0)) := by (rw [hW8, setRow_other _ _ _ _ HNE.out]; exact Y10b.out)); have HU8 := Lib.hid u8; have R10 := Lib.hid r10; have R11 := Lib.hid r11; clear hW8 u8 r10 r11 HU7 Y10b Y11b Y10 Y11 HU6 k9) | ((with_reducible show wpListIn _ _ _ _ _ (Oper.mk _ (Op.load _ (Operand.tmp 10)) _ _ _ _ :: _) _ _); refine wpListIn_load_arr wideF rfl 28 (.tmp 10) rfl b10 0 rfl S _ (rangeAt_row R10.out) rfl rfl (by rw [hSs.out]; rfl) ?_) | ((with_reducible show wpListIn _ _ _ _ _ (Oper.mk _ (Op.load _ (Operand.tmp 11)) _ _ _ _ :: _) _ _); refine wpListIn_load_arr wideF rfl 28 (.tmp 11) rfl b11 0 rfl A' _ (rangeAt_row R11.out) rfl rfl (by rw [hPs.out]; rfl) ?_))
      have ND := Lib.hid fun W' (hu : Up W3 W') => node_calls s pr HSOK.out HPOK.out W' ((K3.out.tabs HH.out.tabs).up hu)
      have NT := Lib.hid fun W' => nodeText_callsO s pr HSOK.out.wf HPOK.out.wf W'
      rw [← HSE.out, ← HPE.out] at ND NT
      have hupS : nodeS s pr = upSum t pr s := by unfold upSum; rw [HSA.out, HSB.out]
      have hupT : nodeT s pr = upText t pr s := by unfold upText; rw [HSA.out, HSB.out]
      have hul : (upSum t pr s).hash.length = 32 := Sha.sum_length _
      rw [hupS] at ND
      rw [hupT] at NT
      obtain ⟨N, hN⟩ : ∃ N, N = (smCells (upSum t pr s)).toArray := ⟨_, rfl⟩
      have hNs : Hid (N.size = 35) := by have := smCells_len hul; show _ = _; rw [hN]; simpa using this
      have hNc : Hid (N.all (·.oneCell') = true) := by rw [hN]; exact smCells_all _
      rw [← hN] at ND
      have HNE2 := Lib.hid hN
      clear hupS hupT hul hN
      refine ⟨trivial, callsIn_wide.2 ((ND.out W8 HU8.out).mono ?_)⟩
      rintro e w9 ⟨rfl, u9⟩
      have HU9 := Lib.hid (Up.trans HU8.out u9)
      have S9 := Lib.hid ((HU9.out.block b6 (lt_of_block S3.out)).trans S3.out)
      have R10b := Lib.hid ((u9.block _ (lt_of_block R10.out)).trans R10.out)
      have R11b := Lib.hid ((u9.block _ (lt_of_block R11.out)).trans R11.out)
      clear u9 R10 R11 HU8
      gi_wp2_with (refine wpListIn_store_row wideF rfl 28 (.tmp 6) (.tmp 44) rfl b6 N rfl rfl 28 _ S9.out (by rw [hNs.out]; rfl) (by rw [hNs.out, hSs.out]) hNc.out ?_)
      refine wpIn_named ?_
      intro WA hWA
      have cA : Chg (· = b6) w9 WA := by rw [hWA]; exact (Chg.refl (· = b6) w9).setRow (.inl rfl) N
      have cA' : Chg (· = b6) W3 WA := (HU9.out.chg _).trans cA
      have SA := Lib.hid (setRow_named hWA S9.out)
      have KA := Lib.hid (K3.out.chg cA' fun k hk e => HB6.out k hk e)
      have hb3 := lt_of_block S3.out
      have QA10 : Hid (WA.heap[b10]? = some (.cells S 28 (0, 0))) := by show _ = _; rw [cA.block b10 (lt_of_block R10b.out) (by have := HG10.out; omega)]; exact R10b.out
      have QA11 : Hid (WA.heap[b11]? = some (.cells A' 28 (0, 0))) := by show _ = _; rw [cA.block b11 (lt_of_block R11b.out) (by have := HG11.out; omega)]; exact R11b.out
      have TA2 := Lib.hid (T3.out.kept (w' := WA) fun g hg => cA'.block g (T3.out.lt g hg) (by have e : bt = g := (by injection hg); omega))
      obtain ⟨O3, hO3⟩ : ∃ O3 : Nat → Prop, O3 = fun k => O2 k ∨ k = b10 ∨ k = b11 := ⟨_, rfl⟩
      have JA := Lib.hid (HJ.out O2 O3 _ W3 WA J3.out (fun k hk => (show O2 k ∨ k = b10 ∨ k = b11 by rw [hO3] at hk; exact hk).elim .inl (fun h => .inr (h.elim (fun h => by rw [h]; exact HG10.out) (fun h => by rw [h]; exact HG11.out)))) (cA'.mono fun k _ e => .inr (by rw [e]; exact O6.out)))
      have O3a : Hid (∀ k, O2 k → O3 k) := fun k h => by rw [hO3]; exact .inl h
      have O3b : Hid (O3 b10) := by rw [hO3]; exact .inr (.inl rfl)
      have O3c : Hid (O3 b11) := by rw [hO3]; exact .inr (.inr rfl)
      have O3L : Hid (∀ k, O3 k → O2 k ∨ k = b10 ∨ k = b11) := fun k h => by rw [hO3] at h; exact h
      clear hO3
      clear hWA cA cA' R10b R11b HU9 S9 hb3
      refine wpIn_region_mix_at wideF [0, 1, 2, 4] [3, 5, 6] (by kernel_rfl) (by kernel_rfl) (fun _ _ d _ _ h => by cases d <;> exact h) ?_
      intro WB uB hWB
      obtain ⟨C, hC⟩ : ∃ C : World → Prop, C = fun W' => KW W0 hb n i x (.slice (some ⟨bp, op, none⟩) m c) W' ∧ W'.heap[b6]? = some (.cells N 28 (0, 0)) ∧ W'.heap[b10]? = some (.cells S 28 (0, 0)) ∧ W'.heap[b11]? = some (.cells A' 28 (0, 0)) := ⟨_, rfl⟩
      have CI : Hid (∀ W', KW W0 hb n i x (.slice (some ⟨bp, op, none⟩) m c) W' → W'.heap[b6]? = some (.cells N 28 (0, 0)) → W'.heap[b10]? = some (.cells S 28 (0, 0)) → W'.heap[b11]? = some (.cells A' 28 (0, 0)) → C W') := fun W' h1 h2 h3 h4 => by rw [hC]; exact ⟨h1, h2, h3, h4⟩
      have CO : Hid (∀ y : InC C, y.w.heap[b6]? = some (.cells N 28 (0, 0)) ∧ y.w.heap[b10]? = some (.cells S 28 (0, 0)) ∧ y.w.heap[b11]? = some (.cells A' 28 (0, 0))) := fun y => (Eq.mp (congrFun hC y.w) y.h).2
      have kB := KA.out.up uB
      have sB := (uB.block b6 (lt_of_block SA.out)).trans SA.out
      have aB := (uB.block b10 (lt_of_block QA10.out)).trans QA10.out
      have bB := (uB.block b11 (lt_of_block QA11.out)).trans QA11.out
      have HCB := Lib.hid (CI.out WB kB sB aB bB)
      refine ⟨C, HCB.out, ?_⟩
      haveI : Nonempty (InC C) := ⟨⟨WB, HCB.out⟩⟩
      clear hC
      simp only [pick, List.getElem?_cons_zero, List.getElem?_cons_succ]
      repeat (first | (refine wpStillC_load_arr (by rfl) 28 (.tmp 10) rfl b10 0 rfl S _ (fun w' hw' => by (obtain ⟨z, rfl⟩ := hw'; exact rangeAt_row (CO.out z).2.1)) rfl rfl (by rw [hSs.out]; rfl) ?_) | (refine wpStillC_load_arr (by rfl) 28 (.tmp 11) rfl b11 0 rfl A' _ (fun w' hw' => by (obtain ⟨z, rfl⟩ := hw'; exact rangeAt_row (CO.out z).2.2)) rfl rfl (by rw [hPs.out]; rfl) ?_) | (refine wpStillC_load_arr (by rfl) 28 (.tmp 6) rfl b6 0 rfl N _ (fun w' hw' => by (obtain ⟨z, rfl⟩ := hw'; exact rangeAt_row (CO.out z).1)) rfl rfl (by rw [hNs.out]; rfl) ?_) | (refine wpStillC_step (fun K hK => ?_); go_simp; refine hK _ ?_; clear hK K))
      refine wpStillC_nil ?_
      simp only [Act.put, List.setIfInBounds_toArray, List.set_cons_succ, List.set_cons_zero]
      refine wpChainIn_want rfl (fun K hK => ?_)
      go_simp
      refine ⟨trivial, callsIn_wide.2 ((NT.out WB).mono ?_)⟩
      rintro e wC ⟨vl2, rfl, ovl, uC⟩
      obtain ⟨pl2, cl2, rfl, hl1, hl2, hl3⟩ := ovl.form
      have hOL : ∀ k, O3 k → k < WB.heap.size := fun k hk => by
        rcases O3L.out k hk with h | h | h
        · rcases OI.out k h with h | h
          · rw [h]; exact lt_of_block sB
          · exact (TA2.out.up uB).lt k h
        · rw [h]; exact lt_of_block aB
        · rw [h]; exact lt_of_block bB
      have KC := Lib.hid (kB.up uC)
      have SC := Lib.hid ((uC.block _ (lt_of_block sB)).trans sB)
      have AC := Lib.hid ((uC.block _ (lt_of_block aB)).trans aB)
      have BC := Lib.hid ((uC.block _ (lt_of_block bB)).trans bB)
      have TC := Lib.hid ((TA2.out.up uB).up uC)
      have jC := HJ.out O3 O3 _ WA wC JA.out (fun k hk => .inl hk) ((Up.trans uB uC).chg _)
      refine hK _ _ (inC (CI.out wC KC.out SC.out AC.out BC.out)) ?_
      clear hK K
      have hrest : wayS x (turnsS n i).reverse ps = ((leafT x, leafS x) :: climbL (leafS x) (rts.take r) (ps.take r)) ++ (upText t pr s, upSum t pr s) :: climbL (climbAt (leafS x) rts ps (r + 1)) (rts.drop (r + 1)) (ps.drop (r + 1)) := by
        rw [wayS, ← HRTS.out, HSP.out]; rfl
      obtain ⟨fn, tmps, assign, body, hy, hR⟩ := HYY.out O3 _ _ _ wC #[.slice pl2 (upText t pr s).length cl2, .agg N] hrest jC ⟨_, by rw [HNE2.out], ovl.less (Nat.zero_le _), fun g hg hO => by have h1 := ovl.block g hg; have h2 := hOL g hO; omega, fun k hk => Nat.lt_of_lt_of_le (hOL k hk) uC.size⟩
      have HRR := Lib.hid hR
      have HREST := Lib.hid hrest
      clear hR jC hl1 hl2 hl3 ovl hOL uC kB sB aB bB uB hWB hrest JA TA2 KA SA QA10 QA11 NT ND J3 K3 S3 P3 T3
      refine wpChainIn_want rfl (fun K hK => ?_)
      go_simp
      refine HRR.out.mono ?_
      clear HRR hy
      rintro e WD (⟨rfl, hJ6, hsz, hk6⟩ | ⟨rfl, hJx6, hsz, hk6⟩)
      case inr =>
        have HC6 := Lib.hid (CI.out WD (KC.out.round hsz (fun k hk => hk6 k (.inl hk))) ((hk6 b6 (.inr (O3a.out _ O6.out)) (lt_of_block SC.out)).trans SC.out) ((hk6 b10 (.inr O3b.out) (lt_of_block AC.out)).trans AC.out) ((hk6 b11 (.inr O3c.out) (lt_of_block BC.out)).trans BC.out))
        have HJX6 := Lib.hid hJx6
        clear hJx6 hk6
        refine hK _ _ (inC HC6.out) ?_
        clear hK K
        refine wpChainIn_want rfl (fun K hK => ?_)
        go_simp
        refine hK _ _ (inC HC6.out) ?_
        clear hK K
        refine wpChainIn_nil ?_
        gi_wp2
        refine bodyPost_ret (results_none rfl _ _ _) rfl ?_
        exact ⟨⟨_, rfl⟩, .inr ⟨_, _, _, by rw [HREST.out, List.append_cons], HJX6.out⟩⟩
      have KD := Lib.hid (KC.out.round hsz (fun k hk => hk6 k (.inl hk)))
      have SD := Lib.hid ((hk6 b6 (.inr (O3a.out _ O6.out)) (lt_of_block SC.out)).trans SC.out)
      have HC6 := Lib.hid (CI.out WD KD.out SD.out ((hk6 b10 (.inr O3b.out) (lt_of_block AC.out)).trans AC.out) ((hk6 b11 (.inr O3c.out) (lt_of_block BC.out)).trans BC.out))
      have JD : Hid (J O2 ((leafT x, leafS x) :: climbL (leafS x) (rts.take (r + 1)) (ps.take (r + 1))) WD) := by
        rw [HTAKE.out]
        exact HJ.out O3 O2 _ WD WD hJ6 (fun k hk => .inl (O3a.out k hk)) (Chg.refl _ _)
      have TD := Lib.hid (TC.out.kept (w' := WD) fun g hg => hk6 g (.inr (O3a.out _ (OV.out g hg))) (TC.out.lt g hg))
      have SD2 : Hid (WD.heap[b6]? = some (.cells (smCells (climbAt (leafS x) rts ps (r + 1))).toArray 28 (0, 0))) := by rw [HSUC.out, ← HNE2.out]; exact SD.out
      clear hJ6 hk6 hsz TC KC SC AC BC SD
      refine hK _ _ (inC HC6.out) ?_
      clear hK K
      refine wpChainIn_want rfl (fun K hK => ?_)
      go_simp
      refine hK _ _ (inC HC6.out) ?_
      clear hK K HC6 CI CO
      refine wpChainIn_nil ?_
      gi_wp2
      exact ⟨⟨r + 1, by omega, by go_num, JD, KD, SD2, TD, HL2⟩, by simp [intOf]; omega⟩
    case neg =>
      have d9 : (((t.2 : Nat) : Int) == 1) = false := by rw [beq_eq_false_iff_ne]; omega
      have HSA : Hid (sideA t pr s = pr) := by show _ = _; unfold sideA; rw [if_neg htt]
      have HSB : Hid (sideB t pr s = s) := by show _ = _; unfold sideB; rw [if_neg htt]
      have HU8 := HU6
      have R10 := Y10
      have R11 := Y11
      obtain ⟨W8, hW8⟩ : ∃ W8, W8 = W6' := ⟨_, rfl⟩
      subst hW8
      clear Y10 Y11 HU6
      have ND := Lib.hid fun W' (hu : Up W3 W') => node_calls pr s HPOK.out HSOK.out W' ((K3.out.tabs HH.out.tabs).up hu)
      have NT := Lib.hid fun W' => nodeText_callsO pr s HPOK.out.wf HSOK.out.wf W'
      rw [← HPE.out, ← HSE.out] at ND NT
      have hupS : nodeS pr s = upSum t pr s := by unfold upSum; rw [HSA.out, HSB.out]
      have hupT : nodeT pr s = upText t pr s := by unfold upText; rw [HSA.out, HSB.out]
      have hul : (upSum t pr s).hash.length = 32 := Sha.sum_length _
      rw [hupS] at ND
      rw [hupT] at NT
      obtain ⟨N, hN⟩ : ∃ N, N = (smCells (upSum t pr s)).toArray := ⟨_, rfl⟩
      have hNs : Hid (N.size = 35) := by have := smCells_len hul; show _ = _; rw [hN]; simpa using this
      have hNc : Hid (N.all (·.oneCell') = true) := by rw [hN]; exact smCells_all _
      rw [← hN] at ND
      have HNE2 := Lib.hid hN
      clear hupS hupT hul hN
      gi_wp2_with (first | ((with_reducible show wpListIn _ _ _ _ _ (Oper.mk _ (Op.load _ (Operand.tmp 10)) _ _ _ _ :: _) _ _); refine wpListIn_load_arr wideF rfl 28 (.tmp 10) rfl b10 0 rfl A' _ (rangeAt_row R10.out) rfl rfl (by rw [hPs.out]; rfl) ?_) | ((with_reducible show wpListIn _ _ _ _ _ (Oper.mk _ (Op.load _ (Operand.tmp 11)) _ _ _ _ :: _) _ _); refine wpListIn_load_arr wideF rfl 28 (.tmp 11) rfl b11 0 rfl S _ (rangeAt_row R11.out) rfl rfl (by rw [hSs.out]; rfl) ?_))
      refine ⟨trivial, callsIn_wide.2 ((ND.out W8 HU8.out).mono ?_)⟩
      rintro e w9 ⟨rfl, u9⟩
      have HU9 := Lib.hid (Up.trans HU8.out u9)
      have S9 := Lib.hid ((HU9.out.block b6 (lt_of_block S3.out)).trans S3.out)
      have R10b := Lib.hid ((u9.block _ (lt_of_block R10.out)).trans R10.out)
      have R11b := Lib.hid ((u9.block _ (lt_of_block R11.out)).trans R11.out)
      clear u9 R10 R11 HU8
      gi_wp2_with (refine wpListIn_store_row wideF rfl 28 (.tmp 6) (.tmp 44) rfl b6 N rfl rfl 28 _ S9.out (by rw [hNs.out]; rfl) (by rw [hNs.out, hSs.out]) hNc.out ?_)
      refine wpIn_named ?_
      intro WA hWA
      have cA : Chg (· = b6) w9 WA := by rw [hWA]; exact (Chg.refl (· = b6) w9).setRow (.inl rfl) N
      have cA' : Chg (· = b6) W3 WA := (HU9.out.chg _).trans cA
      have SA := Lib.hid (setRow_named hWA S9.out)
      have KA := Lib.hid (K3.out.chg cA' fun k hk e => HB6.out k hk e)
      have hb3 := lt_of_block S3.out
      have QA10 : Hid (WA.heap[b10]? = some (.cells A' 28 (0, 0))) := by show _ = _; rw [cA.block b10 (lt_of_block R10b.out) (by have := HG10.out; omega)]; exact R10b.out
      have QA11 : Hid (WA.heap[b11]? = some (.cells S 28 (0, 0))) := by show _ = _; rw [cA.block b11 (lt_of_block R11b.out) (by have := HG11.out; omega)]; exact R11b.out
      have TA2 := Lib.hid (T3.out.kept (w' := WA) fun g hg => cA'.block g (T3.out.lt g hg) (by have e : bt = g := (by injection hg); omega))
      obtain ⟨O3, hO3⟩ : ∃ O3 : Nat → Prop, O3 = fun k => O2 k ∨ k = b10 ∨ k = b11 := ⟨_, rfl⟩
      have JA := Lib.hid (HJ.out O2 O3 _ W3 WA J3.out (fun k hk => (show O2 k ∨ k = b10 ∨ k = b11 by rw [hO3] at hk; exact hk).elim .inl (fun h => .inr (h.elim (fun h => by rw [h]; exact HG10.out) (fun h => by rw [h]; exact HG11.out)))) (cA'.mono fun k _ e => .inr (by rw [e]; exact O6.out)))
      have O3a : Hid (∀ k, O2 k → O3 k) := fun k h => by rw [hO3]; exact .inl h
      have O3b : Hid (O3 b10) := by rw [hO3]; exact .inr (.inl rfl)
      have O3c : Hid (O3 b11) := by rw [hO3]; exact .inr (.inr rfl)
      have O3L : Hid (∀ k, O3 k → O2 k ∨ k = b10 ∨ k = b11) := fun k h => by rw [hO3] at h; exact h
      clear hO3
      clear hWA cA cA' R10b R11b HU9 S9 hb3
      refine wpIn_region_mix_at wideF [0, 1, 2, 4] [3, 5, 6] (by kernel_rfl) (by kernel_rfl) (fun _ _ d _ _ h => by cases d <;> exact h) ?_
      intro WB uB hWB
      obtain ⟨C, hC⟩ : ∃ C : World → Prop, C = fun W' => KW W0 hb n i x (.slice (some ⟨bp, op, none⟩) m c) W' ∧ W'.heap[b6]? = some (.cells N 28 (0, 0)) ∧ W'.heap[b10]? = some (.cells A' 28 (0, 0)) ∧ W'.heap[b11]? = some (.cells S 28 (0, 0)) := ⟨_, rfl⟩
      have CI : Hid (∀ W', KW W0 hb n i x (.slice (some ⟨bp, op, none⟩) m c) W' → W'.heap[b6]? = some (.cells N 28 (0, 0)) → W'.heap[b10]? = some (.cells A' 28 (0, 0)) → W'.heap[b11]? = some (.cells S 28 (0, 0)) → C W') := fun W' h1 h2 h3 h4 => by rw [hC]; exact ⟨h1, h2, h3, h4⟩
      have CO : Hid (∀ y : InC C, y.w.heap[b6]? = some (.cells N 28 (0, 0)) ∧ y.w.heap[b10]? = some (.cells A' 28 (0, 0)) ∧ y.w.heap[b11]? = some (.cells S 28 (0, 0))) := fun y => (Eq.mp (congrFun hC y.w) y.h).2
      have kB := KA.out.up uB
      have sB := (uB.block b6 (lt_of_block SA.out)).trans SA.out
      have aB := (uB.block b10 (lt_of_block QA10.out)).trans QA10.out
      have bB := (uB.block b11 (lt_of_block QA11.out)).trans QA11.out
      have HCB := Lib.hid (CI.out WB kB sB aB bB)
      refine ⟨C, HCB.out, ?_⟩
      haveI : Nonempty (InC C) := ⟨⟨WB, HCB.out⟩⟩
      clear hC
      simp only [pick, List.getElem?_cons_zero, List.getElem?_cons_succ]
      repeat (first | (refine wpStillC_load_arr (by rfl) 28 (.tmp 10) rfl b10 0 rfl A' _ (fun w' hw' => by (obtain ⟨z, rfl⟩ := hw'; exact rangeAt_row (CO.out z).2.1)) rfl rfl (by rw [hPs.out]; rfl) ?_) | (refine wpStillC_load_arr (by rfl) 28 (.tmp 11) rfl b11 0 rfl S _ (fun w' hw' => by (obtain ⟨z, rfl⟩ := hw'; exact rangeAt_row (CO.out z).2.2)) rfl rfl (by rw [hSs.out]; rfl) ?_) | (refine wpStillC_load_arr (by rfl) 28 (.tmp 6) rfl b6 0 rfl N _ (fun w' hw' => by (obtain ⟨z, rfl⟩ := hw'; exact rangeAt_row (CO.out z).1)) rfl rfl (by rw [hNs.out]; rfl) ?_) | (refine wpStillC_step (fun K hK => ?_); go_simp; refine hK _ ?_; clear hK K))
      refine wpStillC_nil ?_
      simp only [Act.put, List.setIfInBounds_toArray, List.set_cons_succ, List.set_cons_zero]
      refine wpChainIn_want rfl (fun K hK => ?_)
      go_simp
      refine ⟨trivial, callsIn_wide.2 ((NT.out WB).mono ?_)⟩
      rintro e wC ⟨vl2, rfl, ovl, uC⟩
      obtain ⟨pl2, cl2, rfl, hl1, hl2, hl3⟩ := ovl.form
      have hOL : ∀ k, O3 k → k < WB.heap.size := fun k hk => by
        rcases O3L.out k hk with h | h | h
        · rcases OI.out k h with h | h
          · rw [h]; exact lt_of_block sB
          · exact (TA2.out.up uB).lt k h
        · rw [h]; exact lt_of_block aB
        · rw [h]; exact lt_of_block bB
      have KC := Lib.hid (kB.up uC)
      have SC := Lib.hid ((uC.block _ (lt_of_block sB)).trans sB)
      have AC := Lib.hid ((uC.block _ (lt_of_block aB)).trans aB)
      have BC := Lib.hid ((uC.block _ (lt_of_block bB)).trans bB)
      have TC := Lib.hid ((TA2.out.up uB).up uC)
      have jC := HJ.out O3 O3 _ WA wC JA.out (fun k hk => .inl hk) ((Up.trans uB uC).chg _)
      refine hK _ _ (inC (CI.out wC KC.out SC.out AC.out BC.out)) ?_
      clear hK K
      have hrest : wayS x (turnsS n i).reverse ps = ((leafT x, leafS x) :: climbL (leafS x) (rts.take r) (ps.take r)) ++ (upText t pr s, upSum t pr s) :: climbL (climbAt (leafS x) rts ps (r + 1)) (rts.drop (r + 1)) (ps.drop (r + 1)) := by
        rw [wayS, ← HRTS.out, HSP.out]; rfl
      obtain ⟨fn, tmps, assign, body, hy, hR⟩ := HYY.out O3 _ _ _ wC #[.slice pl2 (upText t pr s).length cl2, .agg N] hrest jC ⟨_, by rw [HNE2.out], ovl.less (Nat.zero_le _), fun g hg hO => by have h1 := ovl.block g hg; have h2 := hOL g hO; omega, fun k hk => Nat.lt_of_lt_of_le (hOL k hk) uC.size⟩
      have HRR := Lib.hid hR
      have HREST := Lib.hid hrest
      clear hR jC hl1 hl2 hl3 ovl hOL uC kB sB aB bB uB hWB hrest JA TA2 KA SA QA10 QA11 NT ND J3 K3 S3 P3 T3
      refine wpChainIn_want rfl (fun K hK => ?_)
      go_simp
      refine HRR.out.mono ?_
      clear HRR hy
      rintro e WD (⟨rfl, hJ6, hsz, hk6⟩ | ⟨rfl, hJx6, hsz, hk6⟩)
      case inr =>
        have HC6 := Lib.hid (CI.out WD (KC.out.round hsz (fun k hk => hk6 k (.inl hk))) ((hk6 b6 (.inr (O3a.out _ O6.out)) (lt_of_block SC.out)).trans SC.out) ((hk6 b10 (.inr O3b.out) (lt_of_block AC.out)).trans AC.out) ((hk6 b11 (.inr O3c.out) (lt_of_block BC.out)).trans BC.out))
        have HJX6 := Lib.hid hJx6
        clear hJx6 hk6
        refine hK _ _ (inC HC6.out) ?_
        clear hK K
        refine wpChainIn_want rfl (fun K hK => ?_)
        go_simp
        refine hK _ _ (inC HC6.out) ?_
        clear hK K
        refine wpChainIn_nil ?_
        gi_wp2
        refine bodyPost_ret (results_none rfl _ _ _) rfl ?_
        exact ⟨⟨_, rfl⟩, .inr ⟨_, _, _, by rw [HREST.out, List.append_cons], HJX6.out⟩⟩
      have KD := Lib.hid (KC.out.round hsz (fun k hk => hk6 k (.inl hk)))
      have SD := Lib.hid ((hk6 b6 (.inr (O3a.out _ O6.out)) (lt_of_block SC.out)).trans SC.out)
      have HC6 := Lib.hid (CI.out WD KD.out SD.out ((hk6 b10 (.inr O3b.out) (lt_of_block AC.out)).trans AC.out) ((hk6 b11 (.inr O3c.out) (lt_of_block BC.out)).trans BC.out))
      have JD : Hid (J O2 ((leafT x, leafS x) :: climbL (leafS x) (rts.take (r + 1)) (ps.take (r + 1))) WD) := by
        rw [HTAKE.out]
        exact HJ.out O3 O2 _ WD WD hJ6 (fun k hk => .inl (O3a.out k hk)) (Chg.refl _ _)
      have TD := Lib.hid (TC.out.kept (w' := WD) fun g hg => hk6 g (.inr (O3a.out _ (OV.out g hg))) (TC.out.lt g hg))
      have SD2 : Hid (WD.heap[b6]? = some (.cells (smCells (climbAt (leafS x) rts ps (r + 1))).toArray 28 (0, 0))) := by rw [HSUC.out, ← HNE2.out]; exact SD.out
      clear hJ6 hk6 hsz TC KC SC AC BC SD
      refine hK _ _ (inC HC6.out) ?_
      clear hK K
      refine wpChainIn_want rfl (fun K hK => ?_)
      go_simp
      refine hK _ _ (inC HC6.out) ?_
      clear hK K HC6 CI CO
      refine wpChainIn_nil ?_
      gi_wp2
      exact ⟨⟨r + 1, by omega, by go_num, JD, KD, SD2, TD, HL2⟩, by simp [intOf]; omega⟩

end Go.Proofs.YtobcfhninchnkaaDoor
