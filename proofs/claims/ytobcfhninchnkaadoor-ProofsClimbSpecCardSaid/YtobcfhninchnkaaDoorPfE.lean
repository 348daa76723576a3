/- proofs.Climb. Printed by tools/genclimb.py. proofs.Climb: the good case. Printed by tools/genclimb2.py. EQUALITY OF SUMS AND OF SHARES; Climb for all; Check. proofs.Check. -/
import Derived.Test.YtobcfhninchnkaaDoorPfD
namespace Go.Proofs.YtobcfhninchnkaaDoor
open Go Go.RowKit Go.Shelf
attribute [local go_sem] Oper.semAt_some wide_depth
set_option linter.unusedVariables false
set_option maxRecDepth 100000

def badClimb (n i : Int) (x : Sh) (ps : List Sm) : Bool := !fineB x || decide (ps.length ≠ (turnsS n.toNat i.toNat).length) || !(ps.all rightB)
def climbE (n i : Int) (x : Sh) (ps : List Sm) : Int :=
  if n < 1 ∨ 600 < n then 2 else if i < 0 ∨ n ≤ i then 1 else if badClimb n i x ps then 570 else 0
def climbS (n i : Int) (x : Sh) (ps : List Sm) : Sm := if climbE n i x ps = 0 then climbAt (leafS x) (turnsS n.toNat i.toNat).reverse ps ps.length else zeroS
theorem postM_ret {F : Fence} {n : Nat} {P : Program} {fn : Func} {R : Ending → World → Prop} {a : Act} {w : World} {v : Value} (h : (results fn a.tmps).run P w = .ok v w) (hd : a.defers = []) (hR : R (.returned v) w) : bodyPostM F n P fn R .ret a w := by
  show LeavesInM F n P fn a.tmps R a.defers .returning w
  rw [hd]
  exact ⟨v, h, hR⟩
theorem postM_mark {F : Fence} {n : Nat} {P : Program} {fn : Func} {R : Ending → World → Prop} {a : Act} {w : World} {v : Value} {r : Nat} (hd : a.defers = [{ target := .collected r, args := #[] }]) (hw : w.heap[r]? = some (.deferred (some [])))
    (h : (results fn a.tmps).run P (w.putObj r (.deferred none)) = .ok v (w.putObj r (.deferred none))) (hR : R (.returned v) (w.putObj r (.deferred none))) : bodyPostM F n P fn R .ret a w := by
  show LeavesInM F n P fn a.tmps R a.defers .returning w
  rw [hd]
  exact ⟨by simp, .inl ⟨r, _, rfl, run_takeDeferred hw, v, h, hR⟩⟩
theorem wpListIn_allocZ {P : Program} {ops : Array Oper} {rest : List Oper} {Q : Exit → Act → World → Prop} {a : Act} {w : World} {F : Fence} {n : Nat} (hF : WideF F) {o : Oper} (hgd : o.guard = none) (ty : TypeId) (Z : Array Value) (hA : AllocsZ P ty Z) (ho : o.op = .alloc ty)
    (h : ∀ W, Up w W → W.heap.size = w.heap.size + 1 → W.heap[w.heap.size]? = some (.cells Z ty (0, 0)) → wpListIn F n P ops Q rest (a.put o.dst (.pointer (some ⟨w.heap.size, 0, none⟩))) W) : wpListIn F n P ops Q (o :: rest) a w :=
  wpListIn_of_wp hF hgd (fun c e => by rw [ho] at e; cases e) fun K hK => wp_allocZ ty Z hA ho fun W h1 h2 h3 => hK _ _ (h W h1 h2 h3)

set_option maxHeartbeats 1000000 in
theorem climb_range (n i : Int) (x : Sh) (p : Option Addr) (m c : Nat) (ps : List Sm) (w : World) (hm : m = ps.length) (h : climbE n i x ps = 2 ∨ climbE n i x ps = 1) :
    Calls Tryd.prog 14 #[.int .i64 n, .int .i64 i, .agg (shCells x), .slice p m c] w fun e w' => e = .returned (.tuple #[.agg (smCells (climbS n i x ps)).toArray, .int .i64 (climbE n i x ps)]) ∧ Up w w' := by
  have hS : climbS n i x ps = zeroS := by unfold climbS; rw [if_neg (by omega)]
  rw [hS]
  have hzs : Hid ((smCells zeroS).toArray.size = 35) := by show _ = _; simp [smCells, zeroS, u8s]
  have hzc : Hid ((smCells zeroS).toArray.all (·.oneCell') = true) := smCells_all _
  have hza : Hid (AllocsZ Tryd.prog 28 (smCells zeroS).toArray) := allocsSumZ
  obtain ⟨Z, hZ⟩ : ∃ Z, Z = (smCells zeroS).toArray := ⟨_, rfl⟩
  have HZ := Lib.hid hZ
  rw [← hZ] at hzs hza hzc ⊢
  clear hZ
  obtain ⟨A, hA⟩ : ∃ A, A = shCells x := ⟨_, rfl⟩
  rw [← hA]
  clear hS hm hA
  by_cases h1 : n < 1 ∨ 600 < n
  case pos =>
    have he : climbE n i x ps = 2 := by unfold climbE; rw [if_pos h1]
    rw [he]
    clear he h
    have d : Hid (decide (n < 1) = true ∨ (decide (n < 1) = false ∧ decide (600 < n) = true)) := by
      show _ ∨ _
      rcases Classical.em (n < 1) with h | h
      · left; simpa using h
      · right; simp; omega
    clear h1
    refine callsIn_wide (n := 3) |>.1 ?_
    refine callsIn_of_wp_marks Tryd.func14 rfl trivial ?_ rfl
    simp only [Tryd.ntmps14, List.size_toArray, List.length_cons, List.length_nil, Nat.reduceAdd, Nat.reduceSub, Array.replicate_succ, Array.replicate_zero, List.push_toArray, List.append_toArray, List.nil_append, List.cons_append]
    rcases d.out with d1 | ⟨d1, d2⟩
    · gi_wp2_with (first | (refine wpListIn_named ?_; intro W1 hW1; refine wpListIn_allocZ wideF rfl 28 Z hza.out rfl ?_; intro W2 u2 z2 hb2; (have u1 : Up w W1 := by (rw [hW1]; exact (Up.refl w).alloc _)); (have xb : W1.heap[w.heap.size]? = some (.cells A 38 (0, 0)) := by (rw [hW1]; exact heap_new rfl)); have XB := Lib.hid ((u2.block _ (lt_of_block xb)).trans xb); (have s1 : W1.heap.size = w.heap.size + 1 := by (rw [hW1]; simp)); have S1 := Lib.hid s1; have U2 := Lib.hid (Up.trans u1 u2); have HB2 := Lib.hid hb2; (have hg8 : w.heap.size ≤ W1.heap.size := by omega); have HG8 := Lib.hid hg8; (have z2' : W2.heap.size = w.heap.size + 2 := by omega); have HZS := Lib.hid z2'; clear u2 u1 z2 z2' hb2 hW1 xb s1 hg8) | ((with_reducible show wpListIn _ _ _ _ _ (Oper.mk _ (Op.load _ (Operand.tmp 8)) _ _ _ _ :: _) _ _); refine wpListIn_load_arr wideF rfl 28 (.tmp 8) rfl _ 0 rfl Z _ (rangeAt_row HB2.out) rfl rfl (by rw [hzs.out]; rfl) ?_) | ((with_reducible show wpListIn _ _ _ _ _ (Oper.mk _ (Op.store _ (Operand.tmp 8) _) _ _ _ _ :: _) _ _); refine wpListIn_store_row wideF rfl 28 (.tmp 8) _ rfl _ Z rfl rfl 28 _ HB2.out (by rw [hzs.out]; rfl) rfl hzc.out ?_))
      exact postM_ret (results_cell_row_tmp rfl _ _ _ _ Z (0, 0) _ rfl (setRow_heap _ _ _ _ _ _ HB2.out) rfl rfl (by rw [hzs.out]; rfl)) rfl ⟨rfl, below_setRow U2.out HG8.out _⟩
    · gi_wp2_with (first | (refine wpListIn_named ?_; intro W1 hW1; refine wpListIn_allocZ wideF rfl 28 Z hza.out rfl ?_; intro W2 u2 z2 hb2; (have u1 : Up w W1 := by (rw [hW1]; exact (Up.refl w).alloc _)); (have xb : W1.heap[w.heap.size]? = some (.cells A 38 (0, 0)) := by (rw [hW1]; exact heap_new rfl)); have XB := Lib.hid ((u2.block _ (lt_of_block xb)).trans xb); (have s1 : W1.heap.size = w.heap.size + 1 := by (rw [hW1]; simp)); have S1 := Lib.hid s1; have U2 := Lib.hid (Up.trans u1 u2); have HB2 := Lib.hid hb2; (have hg8 : w.heap.size ≤ W1.heap.size := by omega); have HG8 := Lib.hid hg8; (have z2' : W2.heap.size = w.heap.size + 2 := by omega); have HZS := Lib.hid z2'; clear u2 u1 z2 z2' hb2 hW1 xb s1 hg8) | ((with_reducible show wpListIn _ _ _ _ _ (Oper.mk _ (Op.load _ (Operand.tmp 8)) _ _ _ _ :: _) _ _); refine wpListIn_load_arr wideF rfl 28 (.tmp 8) rfl _ 0 rfl Z _ (rangeAt_row HB2.out) rfl rfl (by rw [hzs.out]; rfl) ?_) | ((with_reducible show wpListIn _ _ _ _ _ (Oper.mk _ (Op.store _ (Operand.tmp 8) _) _ _ _ _ :: _) _ _); refine wpListIn_store_row wideF rfl 28 (.tmp 8) _ rfl _ Z rfl rfl 28 _ HB2.out (by rw [hzs.out]; rfl) rfl hzc.out ?_))
      exact postM_ret (results_cell_row_tmp rfl _ _ _ _ Z (0, 0) _ rfl (setRow_heap _ _ _ _ _ _ HB2.out) rfl rfl (by rw [hzs.out]; rfl)) rfl ⟨rfl, below_setRow U2.out HG8.out _⟩
  case neg =>
    have h2 : i < 0 ∨ n ≤ i := by
      rcases Classical.em (i < 0 ∨ n ≤ i) with h' | h'
      · exact h'
      · unfold climbE at h; rw [if_neg h1, if_neg h'] at h; split at h <;> omega
    have he : climbE n i x ps = 1 := by unfold climbE; rw [if_neg h1, if_pos h2]
    rw [he]
    clear he h
    have d1 : decide (n < 1) = false := by simp; omega
    have d2 : decide (600 < n) = false := by simp; omega
    have d : Hid (decide (i < 0) = true ∨ (decide (i < 0) = false ∧ decide (n ≤ i) = true)) := by
      show _ ∨ _
      rcases Classical.em (i < 0) with h | h
      · left; simpa using h
      · right; simp; omega
    clear h1 h2
    refine callsIn_wide (n := 3) |>.1 ?_
    refine callsIn_of_wp_marks Tryd.func14 rfl trivial ?_ rfl
    simp only [Tryd.ntmps14, List.size_toArray, List.length_cons, List.length_nil, Nat.reduceAdd, Nat.reduceSub, Array.replicate_succ, Array.replicate_zero, List.push_toArray, List.append_toArray, List.nil_append, List.cons_append]
    rcases d.out with d3 | ⟨d3, d4⟩
    · gi_wp2_with (first | (refine wpListIn_named ?_; intro W1 hW1; refine wpListIn_allocZ wideF rfl 28 Z hza.out rfl ?_; intro W2 u2 z2 hb2; (have u1 : Up w W1 := by (rw [hW1]; exact (Up.refl w).alloc _)); (have xb : W1.heap[w.heap.size]? = some (.cells A 38 (0, 0)) := by (rw [hW1]; exact heap_new rfl)); have XB := Lib.hid ((u2.block _ (lt_of_block xb)).trans xb); (have s1 : W1.heap.size = w.heap.size + 1 := by (rw [hW1]; simp)); have S1 := Lib.hid s1; have U2 := Lib.hid (Up.trans u1 u2); have HB2 := Lib.hid hb2; (have hg8 : w.heap.size ≤ W1.heap.size := by omega); have HG8 := Lib.hid hg8; (have z2' : W2.heap.size = w.heap.size + 2 := by omega); have HZS := Lib.hid z2'; clear u2 u1 z2 z2' hb2 hW1 xb s1 hg8) | ((with_reducible show wpListIn _ _ _ _ _ (Oper.mk _ (Op.load _ (Operand.tmp 8)) _ _ _ _ :: _) _ _); refine wpListIn_load_arr wideF rfl 28 (.tmp 8) rfl _ 0 rfl Z _ (rangeAt_row HB2.out) rfl rfl (by rw [hzs.out]; rfl) ?_) | ((with_reducible show wpListIn _ _ _ _ _ (Oper.mk _ (Op.store _ (Operand.tmp 8) _) _ _ _ _ :: _) _ _); refine wpListIn_store_row wideF rfl 28 (.tmp 8) _ rfl _ Z rfl rfl 28 _ HB2.out (by rw [hzs.out]; rfl) rfl hzc.out ?_))
      exact postM_ret (results_cell_row_tmp rfl _ _ _ _ Z (0, 0) _ rfl (setRow_heap _ _ _ _ _ _ HB2.out) rfl rfl (by rw [hzs.out]; rfl)) rfl ⟨rfl, below_setRow U2.out HG8.out _⟩
    · gi_wp2_with (first | (refine wpListIn_named ?_; intro W1 hW1; refine wpListIn_allocZ wideF rfl 28 Z hza.out rfl ?_; intro W2 u2 z2 hb2; (have u1 : Up w W1 := by (rw [hW1]; exact (Up.refl w).alloc _)); (have xb : W1.heap[w.heap.size]? = some (.cells A 38 (0, 0)) := by (rw [hW1]; exact heap_new rfl)); have XB := Lib.hid ((u2.block _ (lt_of_block xb)).trans xb); (have s1 : W1.heap.size = w.heap.size + 1 := by (rw [hW1]; simp)); have S1 := Lib.hid s1; have U2 := Lib.hid (Up.trans u1 u2); have HB2 := Lib.hid hb2; (have hg8 : w.heap.size ≤ W1.heap.size := by omega); have HG8 := Lib.hid hg8; (have z2' : W2.heap.size = w.heap.size + 2 := by omega); have HZS := Lib.hid z2'; clear u2 u1 z2 z2' hb2 hW1 xb s1 hg8) | ((with_reducible show wpListIn _ _ _ _ _ (Oper.mk _ (Op.load _ (Operand.tmp 8)) _ _ _ _ :: _) _ _); refine wpListIn_load_arr wideF rfl 28 (.tmp 8) rfl _ 0 rfl Z _ (rangeAt_row HB2.out) rfl rfl (by rw [hzs.out]; rfl) ?_) | ((with_reducible show wpListIn _ _ _ _ _ (Oper.mk _ (Op.store _ (Operand.tmp 8) _) _ _ _ _ :: _) _ _); refine wpListIn_store_row wideF rfl 28 (.tmp 8) _ rfl _ Z rfl rfl 28 _ HB2.out (by rw [hzs.out]; rfl) rfl hzc.out ?_))
      exact postM_ret (results_cell_row_tmp rfl _ _ _ _ Z (0, 0) _ rfl (setRow_heap _ _ _ _ _ _ HB2.out) rfl rfl (by rw [hzs.out]; rfl)) rfl ⟨rfl, below_setRow U2.out HG8.out _⟩

set_option maxHeartbeats 1000000 in
theorem climb_bad (n i : Nat) (x : Sh) (p : Option Addr) (m c : Nat) (ps : List Sm) (w : World) (hm : m = ps.length) (hn1 : 1 ≤ n) (hn : n ≤ 600) (hin : i < n) (hl : ∀ s ∈ ps, s.hash.length = 32) (hrow : RowAt w p 35 smCells ps) (hc : m ≤ c) (hcm : c ≤ maxLen) (h : badClimb n i x ps = true) :
    Calls Tryd.prog 14 #[.int .i64 n, .int .i64 i, .agg (shCells x), .slice p m c] w fun e w' => e = .returned (.tuple #[.agg (smCells (climbS n i x ps)).toArray, .int .i64 (climbE n i x ps)]) ∧ Up w w' := by
  have he : climbE n i x ps = 570 := by unfold climbE; rw [if_neg (by omega), if_neg (by omega), if_pos h]
  have hS : climbS n i x ps = zeroS := by unfold climbS; rw [he, if_neg (by omega)]
  rw [hS, he]
  have hzs : Hid ((smCells zeroS).toArray.size = 35) := by show _ = _; simp [smCells, zeroS, u8s]
  have hzc : Hid ((smCells zeroS).toArray.all (·.oneCell') = true) := smCells_all _
  have hza : Hid (AllocsZ Tryd.prog 28 (smCells zeroS).toArray) := allocsSumZ
  obtain ⟨Z, hZ⟩ : ∃ Z, Z = (smCells zeroS).toArray := ⟨_, rfl⟩
  have HZ := Lib.hid hZ
  rw [← hZ] at hzs hza hzc ⊢
  clear hZ
  unfold badClimb at h
  rw [Int.toNat_natCast, Int.toNat_natCast] at h
  have FN := Lib.hid fun W => fine_calls x W
  have TU := Lib.hid fun W => turns_calls n i W hin (by omega)
  have CF := Lib.hid fun W (hu : Up w W) => containsFunc_calls p m c ps W hm hl (hrow.up hu) hc hcm
  obtain ⟨nt, hnt⟩ : ∃ nt, nt = (turnsS n i).length := ⟨_, rfl⟩
  rw [← hnt, ← hm] at h
  have HNT := Lib.hid hnt
  obtain ⟨fb, hfb⟩ : ∃ fb, fb = fineB x := ⟨_, rfl⟩
  obtain ⟨rb, hrb⟩ : ∃ rb, rb = !(ps.all rightB) := ⟨_, rfl⟩
  rw [← hfb] at FN h
  rw [← hrb] at CF h
  obtain ⟨A, hA⟩ : ∃ A, A = shCells x := ⟨_, rfl⟩
  have hAs : Hid (A.size = 5) := by show _ = _; rw [hA]; rfl
  have d1 : decide (((n : Nat) : Int) < 1) = false := by simp; omega
  have d2 : decide ((600 : Int) < ((n : Nat) : Int)) = false := by simp; omega
  have d3 : decide (((i : Nat) : Int) < 0) = false := by simp
  have d4 : decide (((n : Nat) : Int) ≤ ((i : Nat) : Int)) = false := by simp; omega
  rw [← hA] at FN ⊢
  have H := Lib.hid h
  have hni : ¬ n ≤ i := by omega
  clear hS he hm hA hfb hrb hnt h hl hrow hin
  refine callsIn_wide (n := 3) |>.1 ?_
  refine callsIn_of_wp_marks Tryd.func14 rfl trivial ?_ rfl
  simp only [Tryd.ntmps14, List.size_toArray, List.length_cons, List.length_nil, Nat.reduceAdd, Nat.reduceSub, Array.replicate_succ, Array.replicate_zero, List.push_toArray, List.append_toArray, List.nil_append, List.cons_append]
  gi_wp2_with (first | (refine wpListIn_named ?_; intro W1 hW1; refine wpListIn_allocZ wideF rfl 28 Z hza.out rfl ?_; intro W2 u2 z2 hb2; (have u1 : Up w W1 := by (rw [hW1]; exact (Up.refl w).alloc _)); (have xb : W1.heap[w.heap.size]? = some (.cells A 38 (0, 0)) := by (rw [hW1]; exact heap_new rfl)); have XB := Lib.hid ((u2.block _ (lt_of_block xb)).trans xb); (have s1 : W1.heap.size = w.heap.size + 1 := by (rw [hW1]; simp)); have S1 := Lib.hid s1; have U2 := Lib.hid (Up.trans u1 u2); have HB2 := Lib.hid hb2; (have hg8 : w.heap.size ≤ W1.heap.size := by omega); have HG8 := Lib.hid hg8; (have z2' : W2.heap.size = w.heap.size + 2 := by omega); have HZS := Lib.hid z2'; clear u2 u1 z2 z2' hb2 hW1 xb s1 hg8) | ((with_reducible show wpListIn _ _ _ _ _ (Oper.mk _ (Op.load _ (Operand.tmp 6)) _ _ _ _ :: _) _ _); refine wpListIn_load_arr wideF rfl 38 (.tmp 6) rfl w.heap.size 0 rfl A _ (rangeAt_row XB.out) rfl rfl (by rw [hAs.out]; rfl) ?_))
  refine ⟨trivial, callsIn_wide.2 ((FN.out W2).mono ?_)⟩
  rintro e W3 ⟨rfl, u3⟩
  have HB3 := Lib.hid ((u3.block _ (lt_of_block HB2.out)).trans HB2.out)
  have U3 : Hid (Up w W3) := Up.trans U2.out u3
  clear u3
  cases fb
  case false =>
    gi_wp2_with fail
    refine ⟨trivial, ?_⟩
    gi_wp2_with fail
    refine ⟨trivial, ?_⟩
    gi_wp2_with (first | ((with_reducible show wpListIn _ _ _ _ _ (Oper.mk _ (Op.load _ (Operand.tmp 8)) _ _ _ _ :: _) _ _); refine wpListIn_load_arr wideF rfl 28 (.tmp 8) rfl _ 0 rfl Z _ (rangeAt_row HB3.out) rfl rfl (by rw [hzs.out]; rfl) ?_) | ((with_reducible show wpListIn _ _ _ _ _ (Oper.mk _ (Op.store _ (Operand.tmp 8) _) _ _ _ _ :: _) _ _); refine wpListIn_store_row wideF rfl 28 (.tmp 8) _ rfl _ Z rfl rfl 28 _ HB3.out (by rw [hzs.out]; rfl) rfl hzc.out ?_))
    exact postM_ret (results_cell_row_tmp rfl _ _ _ _ Z (0, 0) _ rfl (setRow_heap _ _ _ _ _ _ HB3.out) rfl rfl (by rw [hzs.out]; rfl)) rfl ⟨rfl, below_setRow U3.out HG8.out _⟩
  gi_wp2_with fail
  refine ⟨trivial, callsIn_wide.2 ((TU.out W3).mono ?_)⟩
  rintro e W4 ⟨v, rfl, o4, u4⟩
  obtain ⟨pt, ct, rfl, ht1, ht2, ht3, ht4⟩ := o4.form (fun x _ => tEnc_len x)
  rw [← HNT.out]
  have HB4 := Lib.hid ((u4.block _ (lt_of_block HB3.out)).trans HB3.out)
  have U4 : Hid (Up w W4) := Up.trans U3.out u4
  clear u4 o4 ht1 ht2 ht3 ht4
  by_cases hmn : m = nt
  case neg =>
    have d5 : (((m : Nat) : Int) != ((nt : Nat) : Int)) = true := by rw [bne_iff_ne]; omega
    gi_wp2_with fail
    refine ⟨trivial, ?_⟩
    gi_wp2_with (first | ((with_reducible show wpListIn _ _ _ _ _ (Oper.mk _ (Op.load _ (Operand.tmp 8)) _ _ _ _ :: _) _ _); refine wpListIn_load_arr wideF rfl 28 (.tmp 8) rfl _ 0 rfl Z _ (rangeAt_row HB4.out) rfl rfl (by rw [hzs.out]; rfl) ?_) | ((with_reducible show wpListIn _ _ _ _ _ (Oper.mk _ (Op.store _ (Operand.tmp 8) _) _ _ _ _ :: _) _ _); refine wpListIn_store_row wideF rfl 28 (.tmp 8) _ rfl _ Z rfl rfl 28 _ HB4.out (by rw [hzs.out]; rfl) rfl hzc.out ?_))
    exact postM_ret (results_cell_row_tmp rfl _ _ _ _ Z (0, 0) _ rfl (setRow_heap _ _ _ _ _ _ HB4.out) rfl rfl (by rw [hzs.out]; rfl)) rfl ⟨rfl, below_setRow U4.out HG8.out _⟩
  have d5 : (((m : Nat) : Int) != ((nt : Nat) : Int)) = false := by rw [hmn]; simp
  have hrb2 : rb = true := by have := H.out; simpa [hmn] using this
  clear hmn
  gi_wp2_with fail
  refine ⟨trivial, callsIn_wide.2 ((CF.out W4 U4.out).mono ?_)⟩
  rintro e W5 ⟨rfl, u5⟩
  have HB5 := Lib.hid ((u5.block _ (lt_of_block HB4.out)).trans HB4.out)
  have U5 : Hid (Up w W5) := Up.trans U4.out u5
  clear u5
  subst hrb2
  gi_wp2_with (first | ((with_reducible show wpListIn _ _ _ _ _ (Oper.mk _ (Op.load _ (Operand.tmp 8)) _ _ _ _ :: _) _ _); refine wpListIn_load_arr wideF rfl 28 (.tmp 8) rfl _ 0 rfl Z _ (rangeAt_row HB5.out) rfl rfl (by rw [hzs.out]; rfl) ?_) | ((with_reducible show wpListIn _ _ _ _ _ (Oper.mk _ (Op.store _ (Operand.tmp 8) _) _ _ _ _ :: _) _ _); refine wpListIn_store_row wideF rfl 28 (.tmp 8) _ rfl _ Z rfl rfl 28 _ HB5.out (by rw [hzs.out]; rfl) rfl hzc.out ?_))
  exact postM_ret (results_cell_row_tmp rfl _ _ _ _ Z (0, 0) _ rfl (setRow_heap _ _ _ _ _ _ HB5.out) rfl rfl (by rw [hzs.out]; rfl)) rfl ⟨rfl, below_setRow U5.out HG8.out _⟩

end Go.Proofs.YtobcfhninchnkaaDoor

namespace Go.Proofs.YtobcfhninchnkaaDoor
open Go Go.RowKit Go.Shelf
attribute [local go_sem] Oper.semAt_some wide_depth
set_option linter.unusedVariables false
set_option maxRecDepth 100000

def lastS (pre : List (List UInt8 × Sm)) : Sm := pre.foldl (fun _ y => y.2) zeroS
theorem lastS_snoc (pre : List (List UInt8 × Sm)) (y : List UInt8 × Sm) : lastS (pre ++ [y]) = y.2 := by simp [lastS]
theorem lastS_hash (pre : List (List UInt8 × Sm)) (h : ∀ y ∈ pre, y.2.hash.length = 32) : (lastS pre).hash.length = 32 := by
  have key : ∀ (pre : List (List UInt8 × Sm)) (s : Sm), s.hash.length = 32 → (∀ y ∈ pre, y.2.hash.length = 32) → (pre.foldl (fun _ y => y.2) s).hash.length = 32 := by
    intro pre
    induction pre with
    | nil => exact fun s hs _ => hs
    | cons y r ih => exact fun s hs h => ih y.2 (h y List.mem_cons_self) fun z hz => h z (List.mem_cons_of_mem _ hz)
  exact key pre zeroS rfl h
theorem climbL_last : ∀ (s : Sm) (ts : List (Nat × Nat)) (ps : List Sm), ts.length = ps.length → (climbL s ts ps).foldl (fun _ y => y.2) s = climbAt s ts ps ps.length
  | s, [], [], _ => by simp [climbL, climbAt]
  | s, t :: ts, p :: ps, h => by
    have ih := climbL_last (upSum t p s) ts ps (by simpa using h)
    rw [climbL, List.foldl_cons, List.length_cons, climbAt]
    exact ih
theorem lastS_way (x : Sh) (ts : List (Nat × Nat)) (ps : List Sm) (h : ts.length = ps.length) : lastS (wayS x ts ps) = climbAt (leafS x) ts ps ps.length := by
  unfold lastS wayS
  rw [List.foldl_cons]
  exact climbL_last _ ts ps h
theorem wayE_of (O : Nat → Prop) (y : List UInt8 × Sm) (args : Array Value) (W : World) (h : wayE O y args W) : args.size = 2 := by
  obtain ⟨v, rfl, _⟩ := h; rfl
theorem wayS_hash (x : Sh) (ts : List (Nat × Nat)) (ps : List Sm) : ∀ y ∈ wayS x ts ps, y.2.hash.length = 32 := by
  have h : ∀ (ts : List (Nat × Nat)) (ps : List Sm) (s : Sm), ∀ y ∈ climbL s ts ps, y.2.hash.length = 32 := by
    intro ts
    induction ts with
    | nil => intro ps s y hy; cases ps <;> cases hy
    | cons t ts ih =>
      intro ps s y hy
      cases ps with
      | nil => cases hy
      | cons p ps =>
        rcases List.mem_cons.1 hy with rfl | hy
        · exact Sha.sum_length _
        · exact ih ps _ y hy
  intro y hy
  rcases List.mem_cons.1 hy with rfl | hy
  · exact Sha.sum_length _
  · exact h ts ps _ y hy

set_option maxHeartbeats 4000000 in
theorem climb_good (n i : Nat) (x : Sh) (p : Option Addr) (m c : Nat) (ps : List Sm) (w : World) (hm : m = ps.length) (hn1 : 1 ≤ n) (hn : n ≤ 600) (hin : i < n) (hl : ∀ s ∈ ps, s.hash.length = 32) (hrow : RowAt w p 35 smCells ps) (hc : m ≤ c) (hcm : c ≤ maxLen) (htab : Tabs w) (h : badClimb n i x ps = false) :
    Calls Tryd.prog 14 #[.int .i64 n, .int .i64 i, .agg (shCells x), .slice p m c] w fun e w' => e = .returned (.tuple #[.agg (smCells (climbS n i x ps)).toArray, .int .i64 (climbE n i x ps)]) ∧ Up w w' := by
  have he : climbE n i x ps = 0 := by unfold climbE; rw [if_neg (by omega), if_neg (by omega), h]; rfl
  have hS : climbS n i x ps = climbAt (leafS x) (turnsS n i).reverse ps ps.length := by unfold climbS; rw [he, if_pos rfl, Int.toNat_natCast, Int.toNat_natCast]
  unfold badClimb at h
  rw [Int.toNat_natCast, Int.toNat_natCast] at h
  simp only [Bool.or_eq_false_iff, Bool.not_eq_false', decide_eq_false_iff_not, Classical.not_not] at h
  obtain ⟨⟨hf, hlen⟩, hright⟩ := h
  rw [hS, he]
  have hlw := lastS_way x (turnsS n i).reverse ps (by rw [List.length_reverse, hlen])
  rw [← hlw]
  have OK : WayOk w n i x p ps c := ⟨hin, by omega, hf, hlen, fun s hs => rightB_le (hl s hs) (List.all_eq_true.1 hright s hs), hrow, by omega, hcm, htab⟩
  have WG := Lib.hid fun hb (hhb : w.heap.size ≤ hb) => way1_gives w n i x p ps c hb m hm OK hhb
  have WC := Lib.hid fun W => way_calls n i x (.slice p m c) p m c rfl W
  have WH := Lib.hid (wayS_hash x (turnsS n i).reverse ps)
  have hzs : Hid ((smCells zeroS).toArray.size = 35) := by show _ = _; simp [smCells, zeroS, u8s]
  have hzc : Hid ((smCells zeroS).toArray.all (·.oneCell') = true) := smCells_all _
  have hza : Hid (AllocsZ Tryd.prog 28 (smCells zeroS).toArray) := allocsSumZ
  obtain ⟨Z, hZ⟩ : ∃ Z, Z = (smCells zeroS).toArray := ⟨_, rfl⟩
  have HZ := Lib.hid hZ
  rw [← hZ] at hzs hza hzc
  clear hZ
  have FN := Lib.hid fun W => fine_calls x W
  have TU := Lib.hid fun W => turns_calls n i W hin (by omega)
  have CF := Lib.hid fun W (hu : Up w W) => containsFunc_calls p m c ps W hm hl (hrow.up hu) hc hcm
  obtain ⟨nt, hnt⟩ : ∃ nt, nt = (turnsS n i).length := ⟨_, rfl⟩
  have HMN : Hid (m = nt) := by show _ = _; rw [hm, hlen, hnt]
  have HNT := Lib.hid hnt
  rw [hf] at FN
  rw [hright] at CF
  obtain ⟨A, hA⟩ : ∃ A, A = shCells x := ⟨_, rfl⟩
  have hAs : Hid (A.size = 5) := by show _ = _; rw [hA]; rfl
  have d1 : decide (((n : Nat) : Int) < 1) = false := by simp; omega
  have d2 : decide ((600 : Int) < ((n : Nat) : Int)) = false := by simp; omega
  have d3 : decide (((i : Nat) : Int) < 0) = false := by simp
  have d4 : decide (((n : Nat) : Int) ≤ ((i : Nat) : Int)) = false := by simp; omega
  rw [← hA] at FN WC ⊢
  have hni : ¬ n ≤ i := by omega
  obtain ⟨xs, hxs⟩ : ∃ xs, xs = wayS x (turnsS n i).reverse ps := ⟨_, rfl⟩
  rw [← hxs] at WG WH ⊢
  have HXS := Lib.hid hxs
  obtain ⟨Y, hY⟩ : ∃ Y, Y = (smCells (lastS xs)).toArray := ⟨_, rfl⟩
  have hYs : Hid (Y.size = 35) := by
    have := smCells_len (lastS_hash xs fun z hz => WH.out z hz)
    show _ = _
    rw [hY]; simpa using this
  have hYc : Hid (Y.all (·.oneCell') = true) := by rw [hY]; exact smCells_all _
  rw [← hY]
  have HYE := Lib.hid hY
  clear hY
  clear hS he hm hA hnt hf hlen hright hl hrow hin hlw OK hxs htab
  refine callsIn_wide (n := 3) |>.1 ?_
  refine callsIn_of_wp_marks Tryd.func14 rfl trivial ?_ rfl
  simp only [Tryd.ntmps14, List.size_toArray, List.length_cons, List.length_nil, Nat.reduceAdd, Nat.reduceSub, Array.replicate_succ, Array.replicate_zero, List.push_toArray, List.append_toArray, List.nil_append, List.cons_append]
  gi_wp2_with (first | (refine wpListIn_named ?_; intro W1 hW1; refine wpListIn_allocZ wideF rfl 28 Z hza.out rfl ?_; intro W2 u2 z2 hb2; (have u1 : Up w W1 := by (rw [hW1]; exact (Up.refl w).alloc _)); (have xb : W1.heap[w.heap.size]? = some (.cells A 38 (0, 0)) := by (rw [hW1]; exact heap_new rfl)); have XB := Lib.hid ((u2.block _ (lt_of_block xb)).trans xb); (have s1 : W1.heap.size = w.heap.size + 1 := by (rw [hW1]; simp)); have S1 := Lib.hid s1; have U2 := Lib.hid (Up.trans u1 u2); have HB2 := Lib.hid hb2; (have hg8 : w.heap.size ≤ W1.heap.size := by omega); have HG8 := Lib.hid hg8; (have z2' : W2.heap.size = w.heap.size + 2 := by omega); have HZS := Lib.hid z2'; clear u2 u1 z2 z2' hb2 hW1 xb s1 hg8) | ((with_reducible show wpListIn _ _ _ _ _ (Oper.mk _ (Op.load _ (Operand.tmp 6)) _ _ _ _ :: _) _ _); refine wpListIn_load_arr wideF rfl 38 (.tmp 6) rfl w.heap.size 0 rfl A _ (rangeAt_row XB.out) rfl rfl (by rw [hAs.out]; rfl) ?_))
  refine ⟨trivial, callsIn_wide.2 ((FN.out W2).mono ?_)⟩
  rintro e W3 ⟨rfl, u3⟩
  have HB3 := Lib.hid ((u3.block _ (lt_of_block HB2.out)).trans HB2.out)
  have XB3 := Lib.hid ((u3.block _ (lt_of_block XB.out)).trans XB.out)
  have U3 : Hid (Up w W3) := Up.trans U2.out u3
  have g3 : Hid (w.heap.size + 2 ≤ W3.heap.size) := by have := u3.size; have := HZS.out; show _ ≤ _; omega
  clear u3
  gi_wp2_with fail
  refine ⟨trivial, callsIn_wide.2 ((TU.out W3).mono ?_)⟩
  rintro e W4 ⟨v, rfl, o4, u4⟩
  obtain ⟨pt, ct, rfl, ht1, ht2, ht3, ht4⟩ := o4.form (fun x _ => tEnc_len x)
  rw [← HNT.out]
  have HB4 := Lib.hid ((u4.block _ (lt_of_block HB3.out)).trans HB3.out)
  have XB4 := Lib.hid ((u4.block _ (lt_of_block XB3.out)).trans XB3.out)
  have U4 : Hid (Up w W4) := Up.trans U3.out u4
  have g4 : Hid (w.heap.size + 2 ≤ W4.heap.size) := Nat.le_trans g3.out u4.size
  clear u4 o4 ht1 ht2 ht3 ht4
  have d5 : (((m : Nat) : Int) != ((nt : Nat) : Int)) = false := by rw [HMN.out]; simp
  gi_wp2_with fail
  refine ⟨trivial, callsIn_wide.2 ((CF.out W4 U4.out).mono ?_)⟩
  rintro e W5 ⟨rfl, u5⟩
  have HB5 := Lib.hid ((u5.block _ (lt_of_block HB4.out)).trans HB4.out)
  have XB5 := Lib.hid ((u5.block _ (lt_of_block XB4.out)).trans XB4.out)
  have U5 : Hid (Up w W5) := Up.trans U4.out u5
  have g5 : Hid (w.heap.size + 2 ≤ W5.heap.size) := Nat.le_trans g4.out u5.size
  clear u5
  gi_wp2_with (first | ((with_reducible show wpListIn _ _ _ _ _ (Oper.mk _ (Op.load _ (Operand.tmp 6)) _ _ _ _ :: _) _ _); refine wpListIn_load_arr wideF rfl 38 (.tmp 6) rfl w.heap.size 0 rfl A _ (rangeAt_row XB5.out) rfl rfl (by rw [hAs.out]; rfl) ?_))
  refine ⟨trivial, callsIn_wide.2 ((WC.out W5).mono ?_)⟩
  rintro e W6 ⟨rfl, u6, s6, k6⟩
  obtain ⟨hb, hhb⟩ : ∃ b, b = W5.heap.size := ⟨_, rfl⟩
  obtain ⟨b8, hb8⟩ : ∃ b, b = W1.heap.size := ⟨_, rfl⟩
  have HB6 := (u6.block _ (lt_of_block HB5.out)).trans HB5.out
  have U6 : Up w W6 := Up.trans U5.out u6
  have K6 : KW w hb n i x (.slice p m c) W6 := by
    rw [← hhb] at k6
    exact ⟨fun k hk => U6.block k hk, k6.b0, k6.b1, k6.b2, k6.b3, U6.size⟩
  rw [← hb8] at HB6
  rw [← hhb, ← hb8]
  have e8 : w.heap.size + 1 ≤ b8 ∧ b8 ≤ w.heap.size + 1 := by rw [hb8, S1.out]; omega
  obtain ⟨e8a, e8b⟩ := e8
  have ehb : w.heap.size + 2 ≤ hb := by rw [hhb]; exact g5.out
  have e6 : hb + 4 ≤ W6.heap.size := by rw [s6, hhb]; exact Nat.le_refl _
  have G1 := Lib.hid K6
  have G2 := Lib.hid U6
  have G3 := Lib.hid HB6
  clear k6 s6 u6 hhb hb8 HB5 XB5 U5 g5 HB4 XB4 U4 g4 HB3 XB3 U3 g3 S1 U2 HB2 HG8 HZS XB K6 U6 HB6
  gi_wp2_with fail
  refine wpIn_range3 (gf := 55) (lb := #[.pointer (some ⟨hb + 2, 0, none⟩), .pointer (some ⟨hb, 0, none⟩), .pointer (some ⟨hb + 1, 0, none⟩), .pointer (some ⟨hb + 3, 0, none⟩)]) rfl
    (enters_of Tryd.func55 (by kernel_rfl) rfl) (fun O y args W h => wayE_of O y args W h) (WG.out hb (by omega))
    (fun k hk => hk.elim) (fun k hk => by rcases hk with hk | hk <;> omega) ?init
    (fun _ pre W => Hid (W.heap[b8]? = some (.cells (smCells (lastS pre)).toArray 28 (0, 0))) ∧ Hid (Up w W))
    (fun _ _ _ _ => False) ?hI ?hIx ⟨?h0, G2⟩
    (fun _ y a' W => ∃ bt v52, a' = { tmps := #[Value.int IntKind.i64 n, Value.int IntKind.i64 i, Value.agg A, Value.slice p m c, undef, undef, Value.pointer (some ⟨w.heap.size, 0, none⟩), undef, Value.pointer (some ⟨b8, 0, none⟩), Value.int IntKind.i64 0, undef, Value.pointer (some ⟨bt, 0, none⟩), Value.bool false, Value.int IntKind.i64 n, Value.bool false, Value.bool false, Value.int IntKind.i64 n, Value.bool false, Value.bool false, undef, Value.bool false, Value.int IntKind.i64 i, Value.bool false, Value.bool false, Value.int IntKind.i64 i, Value.int IntKind.i64 n, Value.bool false, Value.bool false, undef, Value.bool false, Value.agg A, Value.bool true, Value.bool false, Value.bool false, Value.slice p m c, Value.int IntKind.i64 m, Value.int IntKind.i64 n, Value.int IntKind.i64 i, Value.slice pt nt ct, Value.int IntKind.i64 nt, Value.bool false, Value.bool false, Value.bool false, Value.slice p m c, Value.bool false, Value.bool false, undef, Value.int IntKind.i64 n, Value.int IntKind.i64 i, Value.agg A, Value.slice p m c, Value.func (Fn.func 55) #[] #[.pointer (some ⟨hb + 2, 0, none⟩), .pointer (some ⟨hb, 0, none⟩), .pointer (some ⟨hb + 1, 0, none⟩), .pointer (some ⟨hb + 3, 0, none⟩)], v52, .agg (smCells y.2).toArray, undef, undef], defers := [] } ∧ Hid (W.heap[bt]? = some (.cells (smCells y.2).toArray 28 (0, 0))) ∧ W6.heap.size + 1 < bt)
    ?hA ?assign ?body ?done (fun _ _ _ _ _ _ h => h.elim)
  case init => exact fun W hc => G1.out.chg hc fun k _ h => h
  case h0 => show _ = _; rw [show lastS [] = zeroS from rfl, ← HZ.out]; exact G3.out
  case hIx => exact fun c O O' s A B h => h.elim
  case hI =>
    rintro O O' s A B ⟨y1, y2⟩ hO hg hch
    exact ⟨(hch.block b8 (lt_of_block y1.out) (by rintro (h | h | h | h) <;> first | exact h | (have := hO _ h; omega) | omega)).trans y1.out, Up.chgS y2.out hch (by rintro k (h | h | h | h) <;> first | exact h.elim | (have := hO _ h; omega) | omega)⟩
  case hA =>
    rintro O y a' A B ⟨bt, v52, rfl, y1, y2⟩ hlt hch
    exact ⟨bt, v52, rfl, (hch.block bt (lt_of_block y1.out) (by omega)).trans y1.out, y2⟩
  case assign =>
    intro l O pre y rest W args K' hx hi hE hlt hn1 hn2 hK
    obtain ⟨ve, rfl, -, -, -⟩ := hE
    have hyl := WH.out y (by rw [hx]; simp)
    obtain ⟨Y, hY⟩ : ∃ Y, Y = (smCells y.2).toArray := ⟨_, rfl⟩
    have hYs : Hid (Y.size = 35) := by have := smCells_len hyl; show _ = _; rw [hY]; simpa using this
    have hYc : Hid (Y.all (·.oneCell') = true) := by rw [hY]; exact smCells_all _
    have HKK := Lib.hid hK
    have HL := Lib.hid hlt
    have HY := Lib.hid hY
    rw [← hY]
    clear hY hK hi hx hyl hlt hn1 hn2
    go_simp
    gi_wp2_with (first | (refine wpListIn_allocG (wideF_round l) rfl 28 35 allocsSum rfl ?_; intro W7 u7 z7 hz7; obtain ⟨Z7, hZ7, hq7⟩ := hz7; have U7 := Lib.hid u7; have HZ7 := Lib.hid hZ7; have HQ7 := Lib.hid hq7; clear u7 z7 hZ7 hq7) | (refine wpListIn_store_row (wideF_round l) rfl 28 (.tmp 11) (.tmp 53) rfl _ Y rfl rfl 28 _ HQ7.out (by rw [hYs.out]; rfl) (by rw [HZ7.out, hYs.out]) hYc.out ?_))
    obtain ⟨W8, hW8⟩ : ∃ W8, W8 = W7.setRow W.heap.size Y := ⟨_, rfl⟩
    rw [← hW8]
    refine HKK.out _ _ ((setRow_upN hW8 U7.out (Nat.le_refl _)).chg _) ⟨W.heap.size, ve, by rw [← HY.out], by rw [← HY.out]; exact setRow_named hW8 HQ7.out, HL.out⟩
  case body =>
    rintro l O pre y rest a' W hO hx ⟨y1, y2⟩ ⟨bt, v52, rfl, z1, z2⟩ hlt
    have hyl := WH.out y (by rw [hx]; simp)
    have hpl : (smCells (lastS pre)).toArray.size = 35 := by
      have := smCells_len (lastS_hash pre fun z hz => WH.out z (by rw [hx]; exact List.mem_append_left _ hz))
      simpa using this
    obtain ⟨Y, hY⟩ : ∃ Y, Y = (smCells y.2).toArray := ⟨_, rfl⟩
    have hYs : Hid (Y.size = 35) := by have := smCells_len hyl; show _ = _; rw [hY]; simpa using this
    have hYc : Hid (Y.all (·.oneCell') = true) := by rw [hY]; exact smCells_all _
    have HY := Lib.hid hY
    have HPL := Lib.hid hpl
    have HO := Lib.hid hO
    rw [← hY] at z1 ⊢
    clear hY hyl hx hpl hO
    gi_wp2_with (first | (refine wpListIn_load_arr (wideF_round l) rfl 28 (.tmp 11) rfl bt 0 rfl Y _ (rangeAt_row z1.out) rfl rfl (by rw [hYs.out]; rfl) ?_) | (refine wpListIn_store_row (wideF_round l) rfl 28 (.tmp 8) (.tmp 54) rfl b8 Y rfl rfl 28 _ y1.out (by rw [hYs.out]; rfl) (by rw [HPL.out, hYs.out]) hYc.out ?_))
    refine ⟨(Chg.refl (fun k => ¬ KWk w hb k ∧ ¬ O k ∧ k ≠ W6.heap.size ∧ k ≠ W6.heap.size + 1) W).setRow (.inl ⟨fun h => by rcases h with h | h <;> omega, fun h => by have := HO.out _ h; omega, by omega, by omega⟩) _, ?_, ?_⟩
    · show _ = _
      rw [lastS_snoc, ← HY.out]
      exact setRow_heap _ _ _ _ _ _ y1.out
    · exact below_setRow y2.out (by omega) _
  case done =>
    rintro O W ⟨y1, y2⟩ hO hlt hdf
    rw [← HYE.out] at y1
    have HDF := Lib.hid hdf
    clear hO hdf
    gi_wp2_with (first | (refine wpListIn_load_arr wideF rfl 28 (.tmp 8) rfl b8 0 rfl Y _ (rangeAt_row y1.out) rfl rfl (by rw [hYs.out]; rfl) ?_) | (refine wpListIn_store_row wideF rfl 28 (.tmp 8) _ rfl b8 Y rfl rfl 28 _ y1.out (by rw [hYs.out]; rfl) rfl hYc.out ?_))
    have hd2 : (W.setRow b8 Y).heap[W6.heap.size]? = some (.deferred (some [])) := by rw [setRow_other _ _ _ _ (by omega)]; exact HDF.out
    have hy2 : (W.setRow b8 Y).heap[b8]? = _ := setRow_heap _ _ _ _ _ _ y1.out
    have hy3 : ((W.setRow b8 Y).putObj W6.heap.size (.deferred none)).heap[b8]? = some (.cells Y 28 (0, 0)) := (World.putObj_heap_other (by omega)).trans hy2
    exact postM_mark rfl hd2 (results_cell_row_tmp rfl _ _ b8 _ Y (0, 0) _ rfl hy3 rfl rfl (by rw [hYs.out]; rfl)) ⟨rfl, Up.chgS (below_setRow y2.out (by omega) _) (Chg.putObj' (S := fun k => k = W6.heap.size) _ _ rfl) (fun k hk => by omega)⟩

end Go.Proofs.YtobcfhninchnkaaDoor

namespace Go.Proofs.YtobcfhninchnkaaDoor
open Go Go.RowKit
set_option linter.unusedVariables false
set_option maxRecDepth 100000

theorem run_part_agg {P : Program} (w : World) (t : TypeId) (cs D : Array Value) (off n : Nat) (hagg : (isAgg t).run P w = .ok true w) (hs : (Go.sizeOf t).run P w = .ok n w) (h : cs.extract off (off + n) = D) : (part t cs off).run P w = .ok (.agg D) w := by
  unfold part
  simp [Sem.run_bind, hagg, hs, h]
theorem sm_part (s : Sm) (h : s.hash.length = 32) : (smCells s).toArray.extract 0 32 = (u8s s.hash).toArray := by
  apply Array.toList_inj.1
  simp only [smCells, Array.toList_extract]
  rw [List.extract_eq_take_drop, List.drop_zero, List.take_append_of_le_length (by rw [u8s_length, h]; omega), List.take_of_length_le (by rw [u8s_length, h]; omega)]
theorem eqFields_cons {P : Program} (d : Nat) (xs ys : Array Value) (f : Field) (fs : List Field) (w : World) (a b : Value) (r : Bool) (hn : f.name ≠ "_") (ha : (part f.type xs f.offset).run P w = .ok a w) (hb : (part f.type ys f.offset).run P w = .ok b w) (hr : (Op.equalIn d f.type a b).run P w = .ok r w) :
    (Op.eqFields d xs ys (f :: fs)).run P w = if r then (Op.eqFields d xs ys fs).run P w else .ok false w := by
  simp only [Op.eqFields, ne_eq, hn, not_false_eq_true, if_true, Sem.run_bind, ha, hb, hr, Result.andThen_ok]
  cases r <;> simp
theorem four_of {α : Type} {l : List α} (h : l.length = 4) : ∃ a b c d, l = [a, b, c, d] := by
  match l, h with
  | [a, b, c, d], _ => exact ⟨a, b, c, d, rfl⟩
theorem five_of {α : Type} {l : List α} (h : l.length = 5) : ∃ a b c d e, l = [a, b, c, d, e] := by
  match l, h with
  | [a, b, c, d, e], _ => exact ⟨a, b, c, d, e, rfl⟩
theorem Sm.eq_iff (s t : Sm) : s = t ↔ s.hash = t.hash ∧ s.litres = t.litres ∧ s.price = t.price ∧ s.cut = t.cut := by
  constructor
  · rintro rfl; exact ⟨rfl, rfl, rfl, rfl⟩
  · rintro ⟨h1, h2, h3, h4⟩; cases s; cases t; simp_all
theorem Sh.eq_iff (s t : Sh) : s = t ↔ s.farm = t.farm ∧ s.litres = t.litres ∧ s.price = t.price ∧ s.cut = t.cut ∧ s.salt = t.salt := by
  constructor
  · rintro rfl; exact ⟨rfl, rfl, rfl, rfl, rfl⟩
  · rintro ⟨h1, h2, h3, h4, h5⟩; cases s; cases t; simp_all

theorem run_equalIn_sum (s t : Sm) (w : World) (hs : s.hash.length = 32) (ht : t.hash.length = 32) :
    (Op.equalIn 10000 28 (.agg (smCells s).toArray) (.agg (smCells t).toArray)).run Tryd.prog w = .ok (decide (s = t)) w := by
  rw [run_equalIn_struct (P := Tryd.prog) w 9999 28 _ _ (by kernel_rfl) (by kernel_rfl)]
  have hf : (Tryd.prog.fieldsOf 28).toList.map (fun f => (decide (f.name = "_"), f.type, f.offset)) = [(false, 26, 0), (false, 3, 32), (false, 3, 33), (false, 3, 34)] := by kernel_rfl
  obtain ⟨fs, hfs⟩ : ∃ fs, fs = (Tryd.prog.fieldsOf 28).toList := ⟨_, rfl⟩
  rw [← hfs] at hf ⊢
  clear hfs
  obtain ⟨f1, f2, f3, f4, rfl⟩ := four_of (l := fs) (by have := congrArg List.length hf; simpa using this)
  simp only [List.map_cons, List.map_nil, List.cons.injEq, Prod.mk.injEq, decide_eq_false_iff_not, and_true] at hf
  obtain ⟨⟨n1, t1, o1⟩, ⟨n2, t2, o2⟩, ⟨n3, t3, o3⟩, n4, t4, o4⟩ := hf
  have a1 : (isAgg 26).run Tryd.prog w = .ok true w := by kernel_rfl
  have z1 : (Go.sizeOf 26).run Tryd.prog w = .ok 32 w := by kernel_rfl
  have a2 : (isAgg 3).run Tryd.prog w = .ok false w := by kernel_rfl
  have p1 := run_part_agg (P := Tryd.prog) w _ (smCells s).toArray _ 0 32 a1 z1 (sm_part s hs)
  have q1 := run_part_agg (P := Tryd.prog) w _ (smCells t).toArray _ 0 32 a1 z1 (sm_part t ht)
  have p2 := run_part_cell (P := Tryd.prog) w 3 _ 32 _ a2 (sm_c32 hs)
  have q2 := run_part_cell (P := Tryd.prog) w 3 _ 32 _ a2 (sm_c32 ht)
  have p3 := run_part_cell (P := Tryd.prog) w 3 _ 33 _ a2 (sm_c33 hs)
  have q3 := run_part_cell (P := Tryd.prog) w 3 _ 33 _ a2 (sm_c33 ht)
  have p4 := run_part_cell (P := Tryd.prog) w 3 _ 34 _ a2 (sm_c34 hs)
  have q4 := run_part_cell (P := Tryd.prog) w 3 _ 34 _ a2 (sm_c34 ht)
  have e1 := run_equalIn_digest 9997 s.hash t.hash w hs ht
  have e2 := fun a b : Int => run_equalIn_int (P := Tryd.prog) w 9998 3 .i64 .i64 a b rfl
  rw [eqFields_cons _ _ _ f1 _ w _ _ _ n1 (by rw [t1, o1]; exact p1) (by rw [t1, o1]; exact q1) (by rw [t1]; exact e1),
    eqFields_cons _ _ _ f2 _ w _ _ _ n2 (by rw [t2, o2]; exact p2) (by rw [t2, o2]; exact q2) (by rw [t2]; exact e2 _ _),
    eqFields_cons _ _ _ f3 _ w _ _ _ n3 (by rw [t3, o3]; exact p3) (by rw [t3, o3]; exact q3) (by rw [t3]; exact e2 _ _),
    eqFields_cons _ _ _ f4 _ w _ _ _ n4 (by rw [t4, o4]; exact p4) (by rw [t4, o4]; exact q4) (by rw [t4]; exact e2 _ _)]
  have key := Sm.eq_iff s t
  by_cases h1 : s.hash = t.hash
  · by_cases h2 : s.litres = t.litres
    · by_cases h3 : s.price = t.price
      · by_cases h4 : s.cut = t.cut
        · simp [h1, h2, h3, h4, key, Op.eqFields]
        · simp [h1, h2, h3, h4, key]
      · simp [h1, h2, h3, key]
    · simp [h1, h2, key]
  · simp [h1, key]

theorem run_equalIn_share (s t : Sh) (w : World) :
    (Op.equalIn 10000 38 (.agg (shCells s)) (.agg (shCells t))).run Tryd.prog w = .ok (decide (s = t)) w := by
  rw [run_equalIn_struct (P := Tryd.prog) w 9999 38 _ _ (by kernel_rfl) (by kernel_rfl)]
  have hf : (Tryd.prog.fieldsOf 38).toList.map (fun f => (decide (f.name = "_"), f.type, f.offset)) = [(false, 3, 0), (false, 3, 1), (false, 3, 2), (false, 3, 3), (false, 3, 4)] := by kernel_rfl
  obtain ⟨fs, hfs⟩ : ∃ fs, fs = (Tryd.prog.fieldsOf 38).toList := ⟨_, rfl⟩
  rw [← hfs] at hf ⊢
  clear hfs
  obtain ⟨f1, f2, f3, f4, f5, rfl⟩ := five_of (l := fs) (by have := congrArg List.length hf; simpa using this)
  simp only [List.map_cons, List.map_nil, List.cons.injEq, Prod.mk.injEq, decide_eq_false_iff_not, and_true] at hf
  obtain ⟨⟨n1, t1, o1⟩, ⟨n2, t2, o2⟩, ⟨n3, t3, o3⟩, ⟨n4, t4, o4⟩, n5, t5, o5⟩ := hf
  have a2 : (isAgg 3).run Tryd.prog w = .ok false w := by kernel_rfl
  have p := fun (j : Nat) (u : Sh) (v : Value) (h : (shCells u)[j]? = some v) => run_part_cell (P := Tryd.prog) w 3 _ j _ a2 h
  have e2 := fun a b : Int => run_equalIn_int (P := Tryd.prog) w 9998 3 .i64 .i64 a b rfl
  rw [eqFields_cons _ _ _ f1 _ w _ _ _ n1 (by rw [t1, o1]; exact p 0 s _ rfl) (by rw [t1, o1]; exact p 0 t _ rfl) (by rw [t1]; exact e2 _ _),
    eqFields_cons _ _ _ f2 _ w _ _ _ n2 (by rw [t2, o2]; exact p 1 s _ rfl) (by rw [t2, o2]; exact p 1 t _ rfl) (by rw [t2]; exact e2 _ _),
    eqFields_cons _ _ _ f3 _ w _ _ _ n3 (by rw [t3, o3]; exact p 2 s _ rfl) (by rw [t3, o3]; exact p 2 t _ rfl) (by rw [t3]; exact e2 _ _),
    eqFields_cons _ _ _ f4 _ w _ _ _ n4 (by rw [t4, o4]; exact p 3 s _ rfl) (by rw [t4, o4]; exact p 3 t _ rfl) (by rw [t4]; exact e2 _ _),
    eqFields_cons _ _ _ f5 _ w _ _ _ n5 (by rw [t5, o5]; exact p 4 s _ rfl) (by rw [t5, o5]; exact p 4 t _ rfl) (by rw [t5]; exact e2 _ _)]
  have key := Sh.eq_iff s t
  by_cases h1 : s.farm = t.farm
  · by_cases h2 : s.litres = t.litres
    · by_cases h3 : s.price = t.price
      · by_cases h4 : s.cut = t.cut
        · by_cases h5 : s.salt = t.salt
          · simp [h1, h2, h3, h4, h5, key, Op.eqFields]
          · simp [h1, h2, h3, h4, h5, key]
        · simp [h1, h2, h3, h4, key]
      · simp [h1, h2, h3, key]
    · simp [h1, h2, key]
  · simp [h1, key]

theorem run_eql_sum (s t : Sm) (w : World) (hs : s.hash.length = 32) (ht : t.hash.length = 32) : (binOp .eql 28 (.agg (smCells s).toArray) (.agg (smCells t).toArray)).run Tryd.prog w = .ok (.bool (decide (s = t))) w := by
  rw [run_eql_struct, run_equalIn_sum s t w hs ht]; rfl
theorem run_neq_sum (s t : Sm) (w : World) (hs : s.hash.length = 32) (ht : t.hash.length = 32) : (binOp .neq 28 (.agg (smCells s).toArray) (.agg (smCells t).toArray)).run Tryd.prog w = .ok (.bool (!decide (s = t))) w := by
  rw [run_neq_struct, run_equalIn_sum s t w hs ht]; rfl
theorem run_neq_share (s t : Sh) (w : World) : (binOp .neq 38 (.agg (shCells s)) (.agg (shCells t))).run Tryd.prog w = .ok (.bool (!decide (s = t))) w := by
  rw [run_neq_struct, run_equalIn_share s t w]; rfl

/-! ### Climb, whatever comes in -/
theorem climb_calls (n i : Int) (x : Sh) (p : Option Addr) (m c : Nat) (ps : List Sm) (w : World) (hm : m = ps.length) (hl : ∀ s ∈ ps, s.hash.length = 32) (hrow : RowAt w p 35 smCells ps) (hc : m ≤ c) (hcm : c ≤ maxLen) (htab : Tabs w) :
    Calls Tryd.prog 14 #[.int .i64 n, .int .i64 i, .agg (shCells x), .slice p m c] w fun e w' => e = .returned (.tuple #[.agg (smCells (climbS n i x ps)).toArray, .int .i64 (climbE n i x ps)]) ∧ Up w w' := by
  by_cases h1 : n < 1 ∨ 600 < n
  · exact climb_range n i x p m c ps w hm (.inl (by unfold climbE; rw [if_pos h1]))
  by_cases h2 : i < 0 ∨ n ≤ i
  · exact climb_range n i x p m c ps w hm (.inr (by unfold climbE; rw [if_neg h1, if_pos h2]))
  obtain ⟨N, rfl⟩ : ∃ N : Nat, n = N := ⟨n.toNat, by omega⟩
  obtain ⟨I, rfl⟩ : ∃ I : Nat, i = I := ⟨i.toNat, by omega⟩
  cases hb : badClimb N I x ps
  · exact climb_good N I x p m c ps w hm (by omega) (by omega) (by omega) hl hrow hc hcm htab hb
  · exact climb_bad N I x p m c ps w hm (by omega) (by omega) (by omega) hl hrow hc hcm hb
theorem climbAt_hash : ∀ (ts : List (Nat × Nat)) (ps : List Sm) (s : Sm) (r : Nat), s.hash.length = 32 → (climbAt s ts ps r).hash.length = 32
  | _, _, s, 0, h => by rw [climbAt_zero]; exact h
  | t :: ts, p :: ps, s, r + 1, h => by rw [climbAt]; exact climbAt_hash ts ps _ r (Sha.sum_length _)
  | [], ps, s, r + 1, h => by simp [climbAt, h]
  | t :: ts, [], s, r + 1, h => by simp [climbAt, h]
theorem climbS_hash (n i : Int) (x : Sh) (ps : List Sm) : (climbS n i x ps).hash.length = 32 := by
  unfold climbS
  split
  · exact climbAt_hash _ _ _ _ (Sha.sum_length _)
  · rfl

end Go.Proofs.YtobcfhninchnkaaDoor

namespace Go.Proofs.YtobcfhninchnkaaDoor
open Go Go.RowKit
set_option linter.unusedVariables false
set_option maxRecDepth 100000

def checkB (root : Sm) (n i : Int) (x : Sh) (ps : List Sm) : Bool := decide (climbE n i x ps = 0) && decide (climbS n i x ps = root)

theorem wpList_load_arrG {P : Program} {ops : Array Oper} {rest : List Oper} {Q : Exit → Act → World → Prop} {a : Act} {w : World} {o : Oper} (hw : Region.wanted o (yielded ops a.tmps) = true) (ty : TypeId) (x : Operand) (ho : o.op = .load ty x)
    (b off : Nat) (hx : a.eval x = .pointer (some ⟨b, off, none⟩)) (D : Array Value) (d : TypeDesc) (hc : w.rangeAt b off D.toList)
    (hu : P.underlying ty = some d) (hd : d.isRow = true) (hi : (P.info? ty).map (·.size) = some D.size)
    (h : wpList P ops Q rest (a.put o.dst (.agg D)) w) : wpList P ops Q (o :: rest) a w :=
  wpList_step fun K hK => by
    rw [if_pos hw]
    exact wp_load_mid ty x ho b off hx D.toList d hc hu hd (by rw [hi, Array.length_toList]) (by rw [Array.toArray_toList]; exact hK _ _ h)

set_option maxHeartbeats 1000000 in
theorem pfCheck_calls (root : Sm) (n i : Int) (x : Sh) (p : Option Addr) (m c : Nat) (ps : List Sm) (w : World) (hr : root.hash.length = 32) (hm : m = ps.length) (hl : ∀ s ∈ ps, s.hash.length = 32) (hrow : RowAt w p 35 smCells ps) (hc : m ≤ c) (hcm : c ≤ maxLen) (htab : Tabs w) :
    Calls Tryd.prog 15 #[.agg (smCells root).toArray, .int .i64 n, .int .i64 i, .agg (shCells x), .slice p m c] w fun e w' => e = .returned (.bool (checkB root n i x ps)) ∧ Up w w' := by
  have CL := Lib.hid fun W (hu : Up w W) => climb_calls n i x p m c ps W hm hl (hrow.up hu) hc hcm (htab.up hu)
  have hcs := climbS_hash n i x ps
  unfold checkB
  obtain ⟨S, hS⟩ : ∃ S, S = climbS n i x ps := ⟨_, rfl⟩
  obtain ⟨ee, hee⟩ : ∃ ee, ee = climbE n i x ps := ⟨_, rfl⟩
  rw [← hS, ← hee] at CL
  rw [← hS] at hcs
  rw [← hS, ← hee]
  have EQ := fun W => run_eql_sum S root W hcs hr
  have hAs : Hid ((shCells x).size = 5) := by show _ = _; rfl
  have hDs : Hid ((smCells S).toArray.size = 35) := by have := smCells_len hcs; show _ = _; simpa using this
  have hDc : Hid ((smCells S).toArray.all (·.oneCell') = true) := smCells_all _
  have hRs : Hid ((smCells root).toArray.size = 35) := by have := smCells_len hr; show _ = _; simpa using this
  obtain ⟨bb, hbb⟩ : ∃ bb, bb = decide (S = root) := ⟨_, rfl⟩
  rw [← hbb] at EQ ⊢
  obtain ⟨A, hA⟩ : ∃ A, A = shCells x := ⟨_, rfl⟩
  obtain ⟨D, hD⟩ : ∃ D, D = (smCells S).toArray := ⟨_, rfl⟩
  obtain ⟨R, hR⟩ : ∃ R, R = (smCells root).toArray := ⟨_, rfl⟩
  rw [← hA] at CL hAs ⊢
  rw [← hD] at CL EQ hDs hDc
  rw [← hR] at EQ hRs ⊢
  clear hA hD hR hbb hS hee hcs hl hrow hm hr
  go_enter Tryd.func15, Tryd.ntmps15
  go_wp2_with (first | ((with_reducible show wpList _ _ _ (Oper.mk _ (Op.load _ (Operand.tmp 8)) _ _ _ _ :: _) _ _); refine wpList_named ?_; intro W1 hW1; (have u1 : Up w W1 := by (rw [hW1]; exact ((Up.refl w).alloc _).alloc _)); (have xr : W1.heap[w.heap.size]? = some (.cells R 28 (0, 0)) := by (rw [hW1, heap_old (by simp), heap_new rfl])); (have xa : W1.heap[w.heap.size + 1]? = some (.cells A 38 (0, 0)) := by (rw [hW1]; exact heap_new (by simp))); have U1 := Lib.hid u1; have XR := Lib.hid xr; have XA := Lib.hid xa; clear u1 xr xa hW1; refine wpList_load_arr rfl 38 (.tmp 8) rfl (w.heap.size + 1) 0 rfl A _ (rangeAt_row XA.out) rfl rfl (by rw [hAs.out]; rfl) ?_))
  refine (CL.out W1 U1.out).mono ?_
  rintro e W2 ⟨rfl, u2⟩
  have U2 : Hid (Up w W2) := Up.trans U1.out u2
  have XR2 := Lib.hid ((u2.block _ (lt_of_block XR.out)).trans XR.out)
  clear u2
  by_cases h0 : ee = 0
  case neg =>
    have d0 : (ee == 0) = false := by rw [beq_eq_false_iff_ne]; exact h0
    have hv : Hid ((decide (ee = 0) && bb) = false) := by show _ = _; simp [h0]
    clear h0 EQ
    go_wp2_with (first | (refine wpList_allocG rfl 28 35 allocsSum rfl ?_; intro W3 u3 z3 hz3; obtain ⟨Z3, hZ3, hb3⟩ := hz3; have V3 := Lib.hid u3; have HZ3 := Lib.hid hZ3; have HB3 := Lib.hid hb3; clear u3 z3 hZ3 hb3) | (refine wpList_store_row rfl 28 (.tmp 11) (.tmp 19) rfl _ D rfl rfl 28 _ HB3.out (by rw [hDs.out]; rfl) (by rw [HZ3.out, hDs.out]) hDc.out ?_; refine wpList_named ?_; intro W4 hW4; (have u4 : Up W2 W4 := setRow_upN hW4 V3.out (Nat.le_refl _)); (have p4 := setRow_named hW4 HB3.out); have XR4 := Lib.hid ((u4.block _ (lt_of_block XR2.out)).trans XR2.out); have P4 := Lib.hid p4; (have U4 : Hid (Up w W4) := Up.trans U2.out u4); clear u4 p4 hW4))
    go_ret
    exact ⟨by rw [hv.out] <;> rfl, U4.out⟩
  subst h0
  go_wp2_with (first | (refine wpList_allocG rfl 28 35 allocsSum rfl ?_; intro W3 u3 z3 hz3; obtain ⟨Z3, hZ3, hb3⟩ := hz3; have V3 := Lib.hid u3; have HZ3 := Lib.hid hZ3; have HB3 := Lib.hid hb3; clear u3 z3 hZ3 hb3) | (refine wpList_store_row rfl 28 (.tmp 11) (.tmp 19) rfl _ D rfl rfl 28 _ HB3.out (by rw [hDs.out]; rfl) (by rw [HZ3.out, hDs.out]) hDc.out ?_; refine wpList_named ?_; intro W4 hW4; (have u4 : Up W2 W4 := setRow_upN hW4 V3.out (Nat.le_refl _)); (have p4 := setRow_named hW4 HB3.out); have XR4 := Lib.hid ((u4.block _ (lt_of_block XR2.out)).trans XR2.out); have P4 := Lib.hid p4; (have U4 : Hid (Up w W4) := Up.trans U2.out u4); clear u4 p4 hW4) | ((with_reducible show wpList _ _ _ (Oper.mk _ (Op.load _ (Operand.tmp 11)) _ _ _ _ :: _) _ _); refine wpList_load_arrG (by rfl) 28 (.tmp 11) rfl _ 0 rfl D _ (rangeAt_row P4.out) rfl rfl (by rw [hDs.out]; rfl) ?_) | ((with_reducible show wpList _ _ _ (Oper.mk _ (Op.load _ (Operand.tmp 5)) _ _ _ _ :: _) _ _); refine wpList_load_arrG (by rfl) 28 (.tmp 5) rfl _ 0 rfl R _ (rangeAt_row XR4.out) rfl rfl (by rw [hRs.out]; rfl) ?_))
  go_ret
  exact ⟨rfl, U4.out⟩

end Go.Proofs.YtobcfhninchnkaaDoor
