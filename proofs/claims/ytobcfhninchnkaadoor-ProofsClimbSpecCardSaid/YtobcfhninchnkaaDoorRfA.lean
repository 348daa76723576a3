/- the reference acequiaref57: within, share, ... (under way) the reference acequiaref57: Leaf. the reference acequiaref57: Node. the reference acequiaref57: Tree, check, Root. the reference acequiaref57: check, Root. the reference acequiaref57: path, Prove. -/
import Derived.Test.YtobcfhninchnkaaDoorPfF
namespace Go.Proofs.YtobcfhninchnkaaDoor
open Go Go.RowKit
set_option linter.unusedVariables false
set_option maxRecDepth 100000

theorem rwithin_calls (n m : Int) (w : World) : Calls Tryd.prog 59 #[.int .i64 n, .int .i64 m] w fun e w' => e = .returned (.bool (inB n m)) ∧ w' = w := by
  by_cases h1 : 0 ≤ n
  · by_cases h2 : n ≤ m
    · have hb : inB n m = true := by simp [inB, h1, h2]
      rw [hb]
      have d1 : decide ((0 : Int) ≤ n) = true := by simpa using h1
      have d2 : decide (n ≤ m) = true := by simpa using h2
      clear hb h1 h2
      go_enter Tryd.func59, Tryd.ntmps59
      go_wp2
      go_ret
      exact ⟨rfl, rfl⟩
    · have hb : inB n m = false := by simp [inB, h2]
      rw [hb]
      have d1 : decide ((0 : Int) ≤ n) = true := by simpa using h1
      have d2 : decide (n ≤ m) = false := by simpa using h2
      clear hb h1 h2
      go_enter Tryd.func59, Tryd.ntmps59
      go_wp2
      go_ret
      exact ⟨rfl, rfl⟩
  · have hb : inB n m = false := by simp [inB, h1]
    rw [hb]
    have d1 : decide ((0 : Int) ≤ n) = false := by simpa using h1
    clear hb h1
    go_enter Tryd.func59, Tryd.ntmps59
    go_wp2
    go_ret
    exact ⟨rfl, rfl⟩


set_option maxHeartbeats 1000000 in
theorem rshare_calls (x : Sh) (w : World) : Calls Tryd.prog 39 #[.agg (shCells x)] w fun e w' => e = .returned (.bool (fineB x)) ∧ Up w w' := by
  obtain ⟨f, l, p, c, s⟩ := x
  unfold shCells fineB
  obtain ⟨b2, h2⟩ : ∃ b, b = inB l 1099511627776 := ⟨_, rfl⟩
  obtain ⟨b3, h3⟩ : ∃ b, b = inB p 1099511627776 := ⟨_, rfl⟩
  obtain ⟨b4, h4⟩ : ∃ b, b = inB c 1099511627776 := ⟨_, rfl⟩
  obtain ⟨b5, h5⟩ : ∃ b, b = inB s 1099511627776 := ⟨_, rfl⟩
  have I2 := Lib.hid fun w => rwithin_calls l 1099511627776 w
  have I3 := Lib.hid fun w => rwithin_calls p 1099511627776 w
  have I4 := Lib.hid fun w => rwithin_calls c 1099511627776 w
  have I5 := Lib.hid fun w => rwithin_calls s 1099511627776 w
  simp only [← h2, ← h3, ← h4, ← h5] at I2 I3 I4 I5 ⊢
  clear h2 h3 h4 h5
  by_cases hf0 : 0 ≤ f
  case neg =>
    have hb : inB f 599 = false := by simp [inB, hf0]
    have d1 : decide ((0 : Int) ≤ f) = false := by simpa using hf0
    rw [hb]
    clear hb hf0
    go_enter Tryd.func39, Tryd.ntmps39
    go_wp2
    go_ret
    exact ⟨rfl, (Up.refl w).alloc _⟩
  have d1 : decide ((0 : Int) ≤ f) = true := by simpa using hf0
  by_cases hf1 : f < 600
  case neg =>
    have hb : inB f 599 = false := by simp [inB]; omega
    have d2 : decide (f < 600) = false := by simpa using hf1
    rw [hb]
    clear hb hf0 hf1
    go_enter Tryd.func39, Tryd.ntmps39
    go_wp2
    go_ret
    exact ⟨rfl, (Up.refl w).alloc _⟩
  have hb : inB f 599 = true := by simp [inB]; omega
  have d2 : decide (f < 600) = true := by simpa using hf1
  rw [hb]
  clear hb hf0 hf1
  go_enter Tryd.func39, Tryd.ntmps39
  go_wp2_with fail
  refine calls_nm ?_
  intro W hW
  have U : Hid (Up w W) := by show Up w W; rw [hW]; exact (Up.refl w).alloc _
  have q2 : W.cell? ⟨w.heap.size, 2, none⟩ = some (.int .i64 p) := by rw [hW]; exact cell_of_row _ _ _ _ _ _ (heap_new rfl)
  have q3 : W.cell? ⟨w.heap.size, 3, none⟩ = some (.int .i64 c) := by rw [hW]; exact cell_of_row _ _ _ _ _ _ (heap_new rfl)
  have q4 : W.cell? ⟨w.heap.size, 4, none⟩ = some (.int .i64 s) := by rw [hW]; exact cell_of_row _ _ _ _ _ _ (heap_new rfl)
  clear hW
  refine (I2.out W).mono ?_
  rintro e w1 ⟨rfl, rfl⟩
  cases b2
  case false =>
    go_wp2_with fail
    go_ret
    exact ⟨rfl, U.out⟩
  go_wp2_with fail
  refine (I3.out _).mono ?_
  rintro e w1 ⟨rfl, rfl⟩
  cases b3
  case false =>
    go_wp2_with fail
    go_ret
    exact ⟨rfl, U.out⟩
  go_wp2_with fail
  refine (I4.out _).mono ?_
  rintro e w1 ⟨rfl, rfl⟩
  cases b4
  case false =>
    go_wp2_with fail
    go_ret
    exact ⟨rfl, U.out⟩
  go_wp2_with fail
  refine (I5.out _).mono ?_
  rintro e w1 ⟨rfl, rfl⟩
  go_wp2_with fail
  go_ret
  exact ⟨rfl, U.out⟩

set_option maxHeartbeats 1000000 in
theorem rright_calls (s : Sm) (hs : s.hash.length = 32) (w : World) : Calls Tryd.prog 40 #[.agg (smCells s).toArray] w fun e w' => e = .returned (.bool (rightB s)) ∧ Up w w' := by
  have a1 := sm_c32 hs
  have a2 := sm_c33 hs
  have a3 := sm_c34 hs
  obtain ⟨A, hA⟩ : ∃ A, A = (smCells s).toArray := ⟨_, rfl⟩
  rw [← hA] at a1 a2 a3 ⊢
  unfold rightB
  obtain ⟨l, hl⟩ : ∃ l, l = s.litres := ⟨_, rfl⟩
  obtain ⟨p, hp⟩ : ∃ l, l = s.price := ⟨_, rfl⟩
  obtain ⟨c, hc⟩ : ∃ l, l = s.cut := ⟨_, rfl⟩
  rw [← hl] at a1 ⊢
  rw [← hp] at a2 ⊢
  rw [← hc] at a3 ⊢
  obtain ⟨b1, h1⟩ : ∃ b, b = inB l 1125899906842624 := ⟨_, rfl⟩
  obtain ⟨b2, h2⟩ : ∃ b, b = inB p 1125899906842624 := ⟨_, rfl⟩
  obtain ⟨b3, h3⟩ : ∃ b, b = inB c 1125899906842624 := ⟨_, rfl⟩
  have I1 := Lib.hid fun w => rwithin_calls l 1125899906842624 w
  have I2 := Lib.hid fun w => rwithin_calls p 1125899906842624 w
  have I3 := Lib.hid fun w => rwithin_calls c 1125899906842624 w
  simp only [← h1, ← h2, ← h3] at I1 I2 I3 ⊢
  have HA1 := Lib.hid a1
  have HA2 := Lib.hid a2
  have HA3 := Lib.hid a3
  clear h1 h2 h3 hA a1 a2 a3 hl hp hc hs
  go_enter Tryd.func40, Tryd.ntmps40
  go_wp2_with ((with_reducible show wpList _ _ _ (Oper.mk _ (Op.load _ _) _ _ _ _ :: _) _ _); refine wpList_named ?_; intro W hW; (have x1 : W.heap[w.heap.size]? = some (.cells A 28 (0, 0)) := by (rw [hW]; exact heap_new rfl)); (have q1 := (cell_of_row W _ 32 _ _ _ x1).trans HA1.out); (have q2 := (cell_of_row W _ 33 _ _ _ x1).trans HA2.out); (have q3 := (cell_of_row W _ 34 _ _ _ x1).trans HA3.out); (have U : Hid (Up w W) := by (rw [hW]; exact (Up.refl w).alloc _)); clear hW x1)
  refine (I1.out W).mono ?_
  rintro e w1 ⟨rfl, rfl⟩
  cases b1
  case false =>
    go_wp2_with fail
    go_ret
    exact ⟨rfl, U.out⟩
  go_wp2_with fail
  refine (I2.out _).mono ?_
  rintro e w1 ⟨rfl, rfl⟩
  cases b2
  case false =>
    go_wp2_with fail
    go_ret
    exact ⟨rfl, U.out⟩
  go_wp2_with fail
  refine (I3.out _).mono ?_
  rintro e w1 ⟨rfl, rfl⟩
  go_wp2_with fail
  go_ret
  exact ⟨rfl, U.out⟩


end Go.Proofs.YtobcfhninchnkaaDoor

namespace Go.Proofs.YtobcfhninchnkaaDoor
open Go Go.RowKit
set_option linter.unusedVariables false
set_option maxRecDepth 100000

set_option maxHeartbeats 1000000 in
theorem rleaf_calls (x : Sh) (hx : x.wf) (w : World) (htab : Tabs w) : Calls Tryd.prog 41 #[.agg (shCells x)] w fun e w' => e = .returned (.agg (smCells (leafS x)).toArray) ∧ Up w w' := by
  have HT := Lib.hid htab
  have hl : (Sha.sum (leafT x)).length = 32 := Sha.sum_length _
  have hB := built_sum (leafS x) hl
  have hDc := smCells_all (leafS x)
  have hDs : (smCells (leafS x)).toArray.size = 35 := by have := smCells_len (s := leafS x) hl; simpa using this
  obtain ⟨D, hD⟩ : ∃ D, D = (smCells (leafS x)).toArray := ⟨_, rfl⟩
  rw [← hD] at hB hDc hDs ⊢
  have SUM := Lib.hid fun w p c h1 h2 h3 => rsum_calls p c (leafT x) w h1 h2 (by have := leafT_len x; omega) h3
  have LT := Lib.hid fun w => rleafText_calls x hx w
  have e1 : (leafS x).hash = Sha.sum (leafT x) := rfl
  have e2 : (leafS x).litres = x.litres := rfl
  have e3 : (leafS x).price = x.price := rfl
  have e4 : (leafS x).cut = x.cut := rfl
  rw [e1, e2, e3, e4] at hB
  obtain ⟨S, hS⟩ : ∃ S, S = (u8s (Sha.sum (leafT x))).toArray := ⟨_, rfl⟩
  rw [← hS] at hB SUM
  have HB := Lib.hid hB
  have HDC := Lib.hid hDc
  have HDS := Lib.hid hDs
  clear hB hDc hDs hS hl e1 e2 e3 e4 hD htab hx
  unfold shCells at LT ⊢
  go_enter Tryd.func41, Tryd.ntmps41
  go_wp2_with ((first | (refine wpList_named ?_; intro W1 hW1; refine wpList_allocG rfl 28 35 allocsSum rfl ?_; intro W2 u2 z2 hz2; obtain ⟨Z2, hZ2, hb2⟩ := hz2; have HW1 := Lib.hid hW1; have U2 := Lib.hid u2; have HS2 := Lib.hid z2; have HZ2 := Lib.hid hZ2; have HB2 := Lib.hid hb2; clear u2 z2 hZ2 hb2 hW1)))
  obtain ⟨bx, hbx⟩ : ∃ b, b = w.heap.size := ⟨_, rfl⟩
  obtain ⟨bd, hbd⟩ : ∃ b, b = W1.heap.size := ⟨_, rfl⟩
  have e1 : bd = bx + 1 := by rw [hbd, HW1.out, hbx]; simp
  have X1 : W1.heap[bx]? = some (.cells #[.int .i64 x.farm, .int .i64 x.litres, .int .i64 x.price, .int .i64 x.cut, .int .i64 x.salt] 38 (0, 0)) := by rw [HW1.out]; exact heap_new hbx
  have X2 := (U2.out.block bx (lt_of_block X1)).trans X1
  have u2 : Up w W2 := Up.trans (by rw [HW1.out]; exact (Up.refl w).alloc _) U2.out
  have hb2 := HB2.out
  rw [← hbd] at hb2 ⊢
  rw [← hbx]
  have HB3 := Lib.hid hb2
  have X3 := Lib.hid X2
  have U3 := Lib.hid u2
  have HBX := Lib.hid hbx
  have HE := Lib.hid e1
  clear X1 X2 u2 hb2 HB2 U2 HS2 HW1 e1 hbd hbx
  refine wp_region_mix_at [0, 3, 4, 5, 6, 7, 8] [1, 2, 9, 10] (by kernel_rfl) (by kernel_rfl) (fun _ _ d _ _ h => by cases d <;> exact h) ?_
  intro W U hW
  obtain ⟨C, hC⟩ : ∃ C : World → Prop, C = fun W' => Up w W' ∧ W'.heap[bx]? = some (.cells #[.int .i64 x.farm, .int .i64 x.litres, .int .i64 x.price, .int .i64 x.cut, .int .i64 x.salt] 38 (0, 0)) := ⟨_, rfl⟩
  have CI : Hid (∀ W', Up w W' → W'.heap[bx]? = some (.cells #[.int .i64 x.farm, .int .i64 x.litres, .int .i64 x.price, .int .i64 x.cut, .int .i64 x.salt] 38 (0, 0)) → C W') := fun W' h1 h2 => by rw [hC]; exact ⟨h1, h2⟩
  have CO : Hid (∀ y : InC C, y.w.heap[bx]? = some (.cells #[.int .i64 x.farm, .int .i64 x.litres, .int .i64 x.price, .int .i64 x.cut, .int .i64 x.salt] 38 (0, 0))) := fun y => (Eq.mp (congrFun hC y.w) y.h).2
  have XW : Hid (W.heap[bx]? = some (.cells #[.int .i64 x.farm, .int .i64 x.litres, .int .i64 x.price, .int .i64 x.cut, .int .i64 x.salt] 38 (0, 0))) := by show _ = _; rw [hW]; exact X3.out
  have DW : Hid (W.heap[bd]? = some (.cells Z2 28 (0, 0))) := by show _ = _; rw [hW]; exact HB3.out
  have UW : Hid (Up w W) := Up.trans U3.out U
  have hCW := CI.out W UW.out XW.out
  refine ⟨C, hCW, ?_⟩
  haveI : Nonempty (InC C) := ⟨⟨W, hCW⟩⟩
  have k1 : ∀ y : InC C, y.w.cell? ⟨bx, 1, none⟩ = some (.int .i64 x.litres) := fun y => cell_of_row y.w bx 1 _ _ _ (CO.out y)
  have k2 : ∀ y : InC C, y.w.cell? ⟨bx, 2, none⟩ = some (.int .i64 x.price) := fun y => cell_of_row y.w bx 2 _ _ _ (CO.out y)
  have k3 : ∀ y : InC C, y.w.cell? ⟨bx, 3, none⟩ = some (.int .i64 x.cut) := fun y => cell_of_row y.w bx 3 _ _ _ (CO.out y)
  clear hC hW U hCW X3 HB3 U3
  simp only [pick, List.getElem?_cons_zero, List.getElem?_cons_succ]
  repeat (first | (refine wpStillC_load_arr (by rfl) 38 (.tmp 1) rfl bx 0 rfl #[.int .i64 x.farm, .int .i64 x.litres, .int .i64 x.price, .int .i64 x.cut, .int .i64 x.salt] _ (fun w' hw' => by (obtain ⟨z, rfl⟩ := hw'; exact rangeAt_row (CO.out z))) rfl rfl (by rfl) ?_) | (refine wpStillC_step (fun K hK => ?_); go_simp; refine hK _ ?_; clear hK K))
  refine wpStillC_nil ?_
  clear k1 k2 k3
  refine wpChain_step (fun K hK => ?_)
  go_simp
  refine (LT.out W).mono ?_
  rintro e w1 ⟨p, c, rfl, h1, h2, h3, u1⟩
  have U1 : Hid (Up w w1) := Up.trans UW.out u1
  have X1 : Hid (w1.heap[bx]? = some (.cells #[.int .i64 x.farm, .int .i64 x.litres, .int .i64 x.price, .int .i64 x.cut, .int .i64 x.salt] 38 (0, 0))) := (u1.block bx (lt_of_block XW.out)).trans XW.out
  have D1 : Hid (w1.heap[bd]? = some (.cells Z2 28 (0, 0))) := (u1.block bd (lt_of_block DW.out)).trans DW.out
  refine hK _ _ ⟨⟨w1, CI.out w1 U1.out X1.out⟩, rfl⟩ ?_
  clear hK K u1
  refine wpChain_step (fun K hK => ?_)
  go_simp
  refine (SUM.out w1 p c h1 h2 h3).mono ?_
  rintro e w2 ⟨rfl, u2⟩
  have U2 : Hid (Up w w2) := Up.trans U1.out u2
  have X2 : Hid (w2.heap[bx]? = some (.cells #[.int .i64 x.farm, .int .i64 x.litres, .int .i64 x.price, .int .i64 x.cut, .int .i64 x.salt] 38 (0, 0))) := (u2.block bx (lt_of_block X1.out)).trans X1.out
  have D2 : Hid (w2.heap[bd]? = some (.cells Z2 28 (0, 0))) := (u2.block bd (lt_of_block D1.out)).trans D1.out
  refine hK _ _ ⟨⟨w2, CI.out w2 U2.out X2.out⟩, rfl⟩ ?_
  clear hK K u2 h1 h2 h3
  refine wpChain_want rfl (fun K hK => ?_)
  refine wp_buildTo 28 _ rfl D (by simpa [Act.eval] using HB.out) ?_
  refine hK _ _ ⟨⟨w2, CI.out w2 U2.out X2.out⟩, rfl⟩ ?_
  clear hK K
  refine wpChain_want rfl (fun K hK => ?_)
  refine wp_store_row 28 (.tmp 2) (.tmp 12) rfl bd D rfl rfl 28 _ D2.out (by rw [HDS.out]; rfl) (by rw [HZ2.out, HDS.out]) HDC.out ?_
  have U4 : Hid (Up w (w2.setRow bd D)) := below_setRow U2.out (by rw [HE.out, HBX.out]; omega) _
  have X4 : (w2.setRow bd D).heap[bx]? = some (.cells #[.int .i64 x.farm, .int .i64 x.litres, .int .i64 x.price, .int .i64 x.cut, .int .i64 x.salt] 38 (0, 0)) := by
    rw [setRow_other _ _ _ _ (by rw [HE.out]; omega)]; exact X2.out
  refine hK _ _ ⟨⟨_, CI.out _ U4.out X4⟩, rfl⟩ ?_
  clear hK K X4
  refine wpChain_nil ?_
  go_wp2
  refine bodyPost_ret (results_cell_row rfl _ _ bd _ D (0, 0) _ rfl (setRow_heap _ _ _ _ _ _ D2.out) rfl rfl (by rw [HDS.out]; rfl)) rfl ⟨rfl, U4.out⟩


end Go.Proofs.YtobcfhninchnkaaDoor

namespace Go.Proofs.YtobcfhninchnkaaDoor
open Go Go.RowKit
set_option linter.unusedVariables false
set_option maxRecDepth 100000

set_option maxHeartbeats 2000000 in
theorem rnode_calls (s t : Sm) (hs : s.ok) (ht : t.ok) (w : World) (htab : Tabs w) : Calls Tryd.prog 42 #[.agg (smCells s).toArray, .agg (smCells t).toArray] w fun e w' => e = .returned (.agg (smCells (nodeS s t)).toArray) ∧ Up w w' := by
  have HT := Lib.hid htab
  have a1 := Lib.hid (sm_c32 hs.hash)
  have a2 := Lib.hid (sm_c33 hs.hash)
  have a3 := Lib.hid (sm_c34 hs.hash)
  have b1 := Lib.hid (sm_c32 ht.hash)
  have b2 := Lib.hid (sm_c33 ht.hash)
  have b3 := Lib.hid (sm_c34 ht.hash)
  have n1 : IntKind.i64.wrap (s.litres + t.litres) = s.litres + t.litres := IntWalk.i64_in _ (by have := hs.litres; have := ht.litres; omega)
  have n2 : IntKind.i64.wrap (s.price + t.price) = s.price + t.price := IntWalk.i64_in _ (by have := hs.price; have := ht.price; omega)
  have n3 : IntKind.i64.wrap (s.cut + t.cut) = s.cut + t.cut := IntWalk.i64_in _ (by have := hs.cut; have := ht.cut; omega)
  have hl : (nodeS s t).hash.length = 32 := Sha.sum_length _
  have hB := built_sum (nodeS s t) hl
  have hDc := smCells_all (nodeS s t)
  have hDs : (smCells (nodeS s t)).toArray.size = 35 := by have := smCells_len (s := nodeS s t) hl; simpa using this
  have hA1 : (smCells s).toArray.size = 35 := by have := smCells_len (s := s) hs.hash; simpa using this
  have hA2 : (smCells t).toArray.size = 35 := by have := smCells_len (s := t) ht.hash; simpa using this
  have SUM := Lib.hid fun w p c h1 h2 h3 => rsum_calls p c (nodeT s t) w h1 h2 (by have := nodeT_len hs.hash ht.hash; omega) h3
  have LT := Lib.hid fun w => rnodeText_calls s t hs.wf ht.wf w
  have e1 : (nodeS s t).hash = Sha.sum (nodeT s t) := rfl
  have e2 : (nodeS s t).litres = s.litres + t.litres := rfl
  have e3 : (nodeS s t).price = s.price + t.price := rfl
  have e4 : (nodeS s t).cut = s.cut + t.cut := rfl
  rw [e1, e2, e3, e4] at hB
  obtain ⟨D, hD⟩ : ∃ D, D = (smCells (nodeS s t)).toArray := ⟨_, rfl⟩
  rw [← hD] at hB hDc hDs ⊢
  obtain ⟨S, hS⟩ : ∃ S, S = (u8s (Sha.sum (nodeT s t))).toArray := ⟨_, rfl⟩
  rw [← hS] at hB SUM
  obtain ⟨A, hA⟩ : ∃ A, A = (smCells s).toArray := ⟨_, rfl⟩
  obtain ⟨B, hBb⟩ : ∃ B, B = (smCells t).toArray := ⟨_, rfl⟩
  rw [← hA] at a1 a2 a3 hA1 LT ⊢
  rw [← hBb] at b1 b2 b3 hA2 LT ⊢
  have HB := Lib.hid hB
  have HDC := Lib.hid hDc
  have HDS := Lib.hid hDs
  have HA1 := Lib.hid hA1
  have HA2 := Lib.hid hA2
  have LN := Lib.hid (nodeT_len hs.hash ht.hash)
  clear hB hDc hDs hS hl e1 e2 e3 e4 hD hA hBb htab hs ht hA1 hA2
  go_enter Tryd.func42, Tryd.ntmps42
  go_wp2_with ((first | (refine wpList_named ?_; intro W1 hW1; refine wpList_allocG rfl 28 35 allocsSum rfl ?_; intro W2 u2 z2 hz2; obtain ⟨Z2, hZ2, hb2⟩ := hz2; (have x1 : W1.heap[w.heap.size]? = some (.cells A 28 (0, 0)) := by (rw [hW1]; exact (((Up.refl _).alloc _).block w.heap.size (by simp)).trans (heap_new rfl))); (have y1 : W1.heap[w.heap.size + 1]? = some (.cells B 28 (0, 0)) := by (rw [hW1]; exact heap_new (by simp))); (have X2 := Lib.hid ((u2.block _ (lt_of_block x1)).trans x1)); (have Y2 := Lib.hid ((u2.block _ (lt_of_block y1)).trans y1)); (have U2 : Hid (Up w W2) := Up.trans (by (rw [hW1]; exact ((Up.refl w).alloc _).alloc _)) u2); (have hsz : W1.heap.size = w.heap.size + 2 := by (rw [hW1]; simp)); have HSZ := Lib.hid hsz; have HZ2 := Lib.hid hZ2; have HBD := Lib.hid hb2; clear u2 z2 hZ2 hb2 hW1 x1 y1 hsz)))
  obtain ⟨bd, hbd⟩ : ∃ b, b = W1.heap.size := ⟨_, rfl⟩
  rw [← hbd] at HBD HSZ ⊢
  obtain ⟨bx, hbx⟩ : ∃ b, b = w.heap.size := ⟨_, rfl⟩
  rw [← hbx] at X2 Y2 HSZ ⊢
  have HBX := Lib.hid hbx
  clear hbd hbx
  refine wp_region_mix_at [0, 1, 4, 5, 6, 7, 8, 9, 10, 11, 12, 13, 14, 15, 16, 17, 18] [2, 3, 19, 20] (by kernel_rfl) (by kernel_rfl) (fun _ _ d _ _ h => by cases d <;> exact h) ?_
  intro W U hW
  obtain ⟨C, hC⟩ : ∃ C : World → Prop, C = fun W' => Up w W' ∧ W'.heap[bx]? = some (.cells A 28 (0, 0)) ∧ W'.heap[bx + 1]? = some (.cells B 28 (0, 0)) := ⟨_, rfl⟩
  have CI : Hid (∀ W', Up w W' → W'.heap[bx]? = some (.cells A 28 (0, 0)) → W'.heap[bx + 1]? = some (.cells B 28 (0, 0)) → C W') := fun W' h1 h2 h3 => by rw [hC]; exact ⟨h1, h2, h3⟩
  have CO : Hid (∀ y : InC C, y.w.heap[bx]? = some (.cells A 28 (0, 0))) := fun y => (Eq.mp (congrFun hC y.w) y.h).2.1
  have CP : Hid (∀ y : InC C, y.w.heap[bx + 1]? = some (.cells B 28 (0, 0))) := fun y => (Eq.mp (congrFun hC y.w) y.h).2.2
  have XW : Hid (W.heap[bx]? = some (.cells A 28 (0, 0))) := by show _ = _; rw [hW]; exact X2.out
  have YW : Hid (W.heap[bx + 1]? = some (.cells B 28 (0, 0))) := by show _ = _; rw [hW]; exact Y2.out
  have DW : Hid (W.heap[bd]? = some (.cells Z2 28 (0, 0))) := by show _ = _; rw [hW]; exact HBD.out
  have UW : Hid (Up w W) := Up.trans U2.out U
  have hCW := CI.out W UW.out XW.out YW.out
  refine ⟨C, hCW, ?_⟩
  haveI : Nonempty (InC C) := ⟨⟨W, hCW⟩⟩
  have k1 : ∀ y : InC C, y.w.cell? ⟨bx, 32, none⟩ = some (.int .i64 s.litres) := fun y => (cell_of_row y.w bx 32 _ _ _ (CO.out y)).trans a1.out
  have k2 : ∀ y : InC C, y.w.cell? ⟨bx, 33, none⟩ = some (.int .i64 s.price) := fun y => (cell_of_row y.w bx 33 _ _ _ (CO.out y)).trans a2.out
  have k3 : ∀ y : InC C, y.w.cell? ⟨bx, 34, none⟩ = some (.int .i64 s.cut) := fun y => (cell_of_row y.w bx 34 _ _ _ (CO.out y)).trans a3.out
  have k4 : ∀ y : InC C, y.w.cell? ⟨bx + 1, 32, none⟩ = some (.int .i64 t.litres) := fun y => (cell_of_row y.w (bx + 1) 32 _ _ _ (CP.out y)).trans b1.out
  have k5 : ∀ y : InC C, y.w.cell? ⟨bx + 1, 33, none⟩ = some (.int .i64 t.price) := fun y => (cell_of_row y.w (bx + 1) 33 _ _ _ (CP.out y)).trans b2.out
  have k6 : ∀ y : InC C, y.w.cell? ⟨bx + 1, 34, none⟩ = some (.int .i64 t.cut) := fun y => (cell_of_row y.w (bx + 1) 34 _ _ _ (CP.out y)).trans b3.out
  clear hC hW U hCW X2 Y2 HBD U2 a1 a2 a3 b1 b2 b3
  simp only [pick, List.getElem?_cons_zero, List.getElem?_cons_succ]
  repeat (first | ((with_reducible show wpStillC _ _ _ _ (Oper.mk _ (Op.load _ (Operand.tmp 2)) _ _ _ _ :: _) _); refine wpStillC_load_arr (by rfl) 28 (.tmp 2) rfl bx 0 rfl A _ (fun w' hw' => by (obtain ⟨z, rfl⟩ := hw'; exact rangeAt_row (CO.out z))) rfl rfl (by rw [HA1.out]; rfl) ?_) | ((with_reducible show wpStillC _ _ _ _ (Oper.mk _ (Op.load _ (Operand.tmp 3)) _ _ _ _ :: _) _); refine wpStillC_load_arr (by rfl) 28 (.tmp 3) rfl (bx + 1) 0 rfl B _ (fun w' hw' => by (obtain ⟨z, rfl⟩ := hw'; exact rangeAt_row (CP.out z))) rfl rfl (by rw [HA2.out]; rfl) ?_) | (refine wpStillC_step (fun K hK => ?_); go_simp; refine hK _ ?_; clear hK K))
  refine wpStillC_nil ?_
  clear k1 k2 k3 k4 k5 k6 n1 n2 n3
  refine wpChain_step (fun K hK => ?_)
  go_simp
  refine (LT.out W).mono ?_
  rintro e w1 ⟨p, c, rfl, h1, h2, h3, u1⟩
  have U1 : Hid (Up w w1) := Up.trans UW.out u1
  have X1 : Hid (w1.heap[bx]? = some (.cells A 28 (0, 0))) := (u1.block bx (lt_of_block XW.out)).trans XW.out
  have Y1 : Hid (w1.heap[bx + 1]? = some (.cells B 28 (0, 0))) := (u1.block _ (lt_of_block YW.out)).trans YW.out
  have D1 : Hid (w1.heap[bd]? = some (.cells Z2 28 (0, 0))) := (u1.block bd (lt_of_block DW.out)).trans DW.out
  refine hK _ _ ⟨⟨w1, CI.out w1 U1.out X1.out Y1.out⟩, rfl⟩ ?_
  clear hK K u1
  refine wpChain_step (fun K hK => ?_)
  go_simp
  refine (SUM.out w1 p c h1 h2 h3).mono ?_
  rintro e w2 ⟨rfl, u2⟩
  have U2 : Hid (Up w w2) := Up.trans U1.out u2
  have X2 : Hid (w2.heap[bx]? = some (.cells A 28 (0, 0))) := (u2.block bx (lt_of_block X1.out)).trans X1.out
  have Y2 : Hid (w2.heap[bx + 1]? = some (.cells B 28 (0, 0))) := (u2.block _ (lt_of_block Y1.out)).trans Y1.out
  have D2 : Hid (w2.heap[bd]? = some (.cells Z2 28 (0, 0))) := (u2.block bd (lt_of_block D1.out)).trans D1.out
  refine hK _ _ ⟨⟨w2, CI.out w2 U2.out X2.out Y2.out⟩, rfl⟩ ?_
  clear hK K u2 h1 h2 h3
  refine wpChain_want rfl (fun K hK => ?_)
  refine wp_buildTo 28 _ rfl D (by simpa [Act.eval] using HB.out) ?_
  refine hK _ _ ⟨⟨w2, CI.out w2 U2.out X2.out Y2.out⟩, rfl⟩ ?_
  clear hK K
  refine wpChain_want rfl (fun K hK => ?_)
  refine wp_store_row 28 (.tmp 4) (.tmp 24) rfl bd D rfl rfl 28 _ D2.out (by rw [HDS.out]; rfl) (by rw [HZ2.out, HDS.out]) HDC.out ?_
  have U4 : Hid (Up w (w2.setRow bd D)) := below_setRow U2.out (by rw [HSZ.out, HBX.out]; omega) _
  have X4 : (w2.setRow bd D).heap[bx]? = some (.cells A 28 (0, 0)) := by
    rw [setRow_other _ _ _ _ (by rw [HSZ.out]; omega)]; exact X2.out
  have Y4 : (w2.setRow bd D).heap[bx + 1]? = some (.cells B 28 (0, 0)) := by
    rw [setRow_other _ _ _ _ (by rw [HSZ.out]; omega)]; exact Y2.out
  refine hK _ _ ⟨⟨_, CI.out _ U4.out X4 Y4⟩, rfl⟩ ?_
  clear hK K X4 Y4
  refine wpChain_nil ?_
  go_wp2
  refine bodyPost_ret (results_cell_row rfl _ _ bd _ D (0, 0) _ rfl (setRow_heap _ _ _ _ _ _ D2.out) rfl rfl (by rw [HDS.out]; rfl)) rfl ⟨rfl, U4.out⟩

end Go.Proofs.YtobcfhninchnkaaDoor

namespace Go.Proofs.YtobcfhninchnkaaDoor
open Go Go.RowKit
set_option linter.unusedVariables false
set_option maxRecDepth 100000

theorem hf_of_pow {j n : Nat} (h1 : 2 ^ j < n) (h2 : n ≤ 2 * 2 ^ j) : hf n = 2 ^ j := by
  unfold hf
  have h3 : n - 1 < 2 ^ (j + 1) := by rw [Nat.pow_succ]; omega
  have h0 : n - 1 ≠ 0 := by have := Nat.pow_pos (n := j) (show 0 < 2 by omega); omega
  have a := (Nat.log2_lt h0).2 h3
  have b : ¬ Nat.log2 (n - 1) < j := fun h => by
    have := (Nat.log2_lt h0).1 h
    omega
  have : Nat.log2 (n - 1) = j := by omega
  rw [this]
/-- a power of two -/
def Pow2 (k : Nat) : Prop := ∃ j, k = 2 ^ j
theorem Pow2.one : Pow2 1 := ⟨0, rfl⟩
theorem Pow2.two {k : Nat} (h : Pow2 k) : Pow2 (2 * k) := by obtain ⟨j, rfl⟩ := h; exact ⟨j + 1, by rw [Nat.pow_succ]; omega⟩
theorem Pow2.hf {k n : Nat} (h : Pow2 k) (h1 : k < n) (h2 : n ≤ 2 * k) : k = hf n := by obtain ⟨j, rfl⟩ := h; exact (hf_of_pow h1 h2).symm

set_option maxHeartbeats 2000000 in
theorem rtree_calls : ∀ (k : Nat) (p : Option Addr) (n c : Nat) (ls : List Sh) (w : World), n = k → n = ls.length → 1 ≤ n → n ≤ 700 → (∀ x ∈ ls, fineB x = true) → Shares w p ls → n ≤ c → c ≤ maxLen → Tabs w →
    Calls Tryd.prog 27 #[.slice p n c] w fun e w' => e = .returned (.agg (smCells (treeS ls)).toArray) ∧ Up w w' := by
  intro k
  induction k using Nat.strongRecOn with
  | ind k ih =>
    intro p n c ls w hk hn h1 hn7 hfi hsh hc hcm htab
    have hok := treeS_ok (l := ls) (by rintro rfl; simp at hn; omega) (by omega) hfi
    have hDs : (smCells (treeS ls)).toArray.size = 35 := by have := smCells_len (s := treeS ls) hok.hash; simpa using this
    have hDc := smCells_all (treeS ls)
    obtain ⟨D, hD⟩ : ∃ D, D = (smCells (treeS ls)).toArray := ⟨_, rfl⟩
    rw [← hD] at hDs hDc ⊢
    have HDE := Lib.hid hD
    have HDs := Lib.hid hDs
    have HDc := Lib.hid hDc
    have HT := Lib.hid htab
    clear hDs hDc htab
    obtain ⟨b, o, rfl, hrg⟩ := hsh (by rintro rfl; simp at hn; omega)
    by_cases h2 : n = 1
    case pos =>
      subst h2
      obtain ⟨x, rfl⟩ : ∃ x, ls = [x] := List.length_eq_one_iff.1 hn.symm
      clear hn
      have hx := (fineB_wf (hfi x (by simp))).1
      have LF := Lib.hid fun W (hu : Up w W) => rleaf_calls x hx W (HT.out.up hu)
      rw [← treeS_one x, ← hD] at LF
      have g := hrg 0 (by simp)
      simp only [Nat.zero_mul, Nat.add_zero, List.getElem_cons_zero] at g
      have G := Lib.hid g
      have hAs : (shCells x).size = 5 := rfl
      obtain ⟨A, hA⟩ : ∃ A, A = shCells x := ⟨_, rfl⟩
      rw [← hA] at LF G hAs
      have HAs := Lib.hid hAs
      clear hA hAs g hrg hD hok hfi ih hsh hk h1 hn7
      go_enter Tryd.func27, Tryd.ntmps27
      go_wp2_with (first | (refine wpList_allocG rfl 28 35 allocsSum rfl ?_; intro W2 u2 z2 hz2; obtain ⟨Z2, hZ2, hb2⟩ := hz2; have U2 := Lib.hid u2; have HZ2 := Lib.hid hZ2; have HB2 := Lib.hid hb2; clear u2 z2 hZ2 hb2) | (refine wpList_load_arr rfl 38 (.tmp 8) rfl b o rfl A _ (rangeAt_up G.out U2.out) rfl rfl (by rw [HAs.out]; rfl) ?_))
      obtain ⟨bd, hbd⟩ : ∃ b, b = w.heap.size := ⟨_, rfl⟩
      have HB3 := HB2.out
      rw [← hbd] at HB3 ⊢
      have HBd := Lib.hid hbd
      have HB4 := Lib.hid HB3
      clear hbd HB3 HB2
      refine (LF.out W2 U2.out).mono ?_
      rintro e w5 ⟨rfl, u5⟩
      have X5 := Lib.hid ((u5.block bd (lt_of_block HB4.out)).trans HB4.out)
      have U5 : Hid (Up w w5) := Up.trans U2.out u5
      clear u5
      go_wp2_with (refine wpList_store_row rfl 28 (.tmp 2) (.tmp 10) rfl bd D rfl rfl 28 _ X5.out (by rw [HDs.out]; rfl) (by rw [HZ2.out, HDs.out]) HDc.out ?_)
      refine bodyPost_ret (results_cell_row rfl _ _ bd _ D (0, 0) _ rfl (setRow_heap _ _ _ _ _ _ X5.out) rfl rfl (by rw [HDs.out]; rfl)) rfl ⟨rfl, below_setRow U5.out (by rw [HBd.out]; exact Nat.le_refl _) _⟩
    have d1 : ((n : Int) == 1) = false := by rw [beq_eq_false_iff_ne]; omega
    have h2n : 2 ≤ n := by omega
    have hlt := hf_lt h2n
    have hpos := hf_pos n
    have hl1 : (ls.take (hf n)).length = hf n := by rw [List.length_take]; omega
    have hl2 : (ls.drop (hf n)).length = n - hf n := by rw [List.length_drop]; omega
    have hne1 : ls.take (hf n) ≠ [] := fun e => by rw [e] at hl1; simp at hl1; omega
    have hne2 : ls.drop (hf n) ≠ [] := fun e => by rw [e] at hl2; simp at hl2; omega
    have hfi1 : ∀ x ∈ ls.take (hf n), fineB x = true := fun x hx => hfi x (List.mem_of_mem_take hx)
    have hfi2 : ∀ x ∈ ls.drop (hf n), fineB x = true := fun x hx => hfi x (List.mem_of_mem_drop hx)
    have T1 := Lib.hid fun W (hu : Up w W) => ih (hf n) (by omega) (some ⟨b, o, none⟩) (hf n) c (ls.take (hf n)) W rfl hl1.symm (by omega) (by omega) hfi1 ((hsh.up hu).take _) (by omega) hcm (HT.out.up hu)
    have T2 := Lib.hid fun W (hu : Up w W) => ih (n - hf n) (by omega) (some ⟨b, o + hf n * 5, none⟩) (n - hf n) (c - hf n) (ls.drop (hf n)) W rfl hl2.symm (by omega) (by omega) hfi2 ((hsh.up hu).drop _) (by omega) (by omega) (HT.out.up hu)
    have ok1 := treeS_ok hne1 (by omega) hfi1
    have ok2 := treeS_ok hne2 (by omega) hfi2
    have ND := Lib.hid fun W (hu : Up w W) => rnode_calls (treeS (ls.take (hf n))) (treeS (ls.drop (hf n))) ok1 ok2 W (HT.out.up hu)
    rw [hn, ← treeS_two (by omega), ← hn] at ND
    rw [← hD] at ND
    obtain ⟨A1, hA1⟩ : ∃ A, A = (smCells (treeS (ls.take (hf n)))).toArray := ⟨_, rfl⟩
    obtain ⟨A2, hA2⟩ : ∃ A, A = (smCells (treeS (ls.drop (hf n)))).toArray := ⟨_, rfl⟩
    rw [← hA1] at T1 ND
    rw [← hA2] at T2 ND
    obtain ⟨m, hm⟩ : ∃ m, m = hf n := ⟨_, rfl⟩
    rw [← hm] at T1 T2 hlt hpos
    have HM := Lib.hid hm
    clear hA1 hA2 ok1 ok2 hfi1 hfi2 hne1 hne2 hl1 hl2 hD hok hfi ih hsh hrg hm hn hk
    go_enter Tryd.func27, Tryd.ntmps27
    go_wp2_with (first | (refine wpList_allocG rfl 28 35 allocsSum rfl ?_; intro W2 u2 z2 hz2; obtain ⟨Z2, hZ2, hb2⟩ := hz2; have U2 := Lib.hid u2; have HZ2 := Lib.hid hZ2; have HB2 := Lib.hid hb2; clear u2 z2 hZ2 hb2))
    obtain ⟨bd, hbd⟩ : ∃ b, b = w.heap.size := ⟨_, rfl⟩
    have HB3 := HB2.out
    rw [← hbd] at HB3 ⊢
    have HBd := Lib.hid hbd
    have HB4 := Lib.hid HB3
    clear hbd HB3 HB2
    go_loop [3] (fun v3 => ∃ q : Nat, v3 = .int .i64 q ∧ Hid (Pow2 q) ∧ 0 < q ∧ q < n) (fun v3 => n - (intOf v3).toNat)
    case atStart => exact ⟨1, rfl, Pow2.one, by omega, by omega⟩
    case round =>
      obtain ⟨q, rfl, HP, hq0, hqn⟩ := hrel
      by_cases hlt2 : 2 * q < n
      case pos =>
        have HP2 : Hid (Pow2 (2 * q)) := HP.out.two
        have d3 : decide ((2 : Int) * (q : Int) < (n : Int)) = true := by simp; omega
        go_wp2
        exact ⟨⟨2 * q, by simp, HP2, by omega, hlt2⟩, by simp [intOf]; omega⟩
      have d3 : decide ((2 : Int) * (q : Int) < (n : Int)) = false := by simp; omega
      obtain rfl : q = m := by rw [HM.out]; exact HP.out.hf hqn (by omega)
      clear HM HP hlt2
      go_wp2_with fail
      refine wp_region_mix_at [0, 1, 2, 4, 5, 6] [3, 7, 8, 9] (by kernel_rfl) (by kernel_rfl) (fun _ _ d _ _ h => by cases d <;> exact h) ?_
      intro W U hW
      have DW : Hid (W.heap[bd]? = some (.cells Z2 28 (0, 0))) := by show _ = _; rw [hW]; exact HB4.out
      have UW : Hid (Up w W) := Up.trans U2.out U
      clear U hW HB4 d3
      refine ⟨fun W' => Up w W', UW.out, ?_⟩
      haveI : Nonempty (InC (fun W' => Up w W')) := ⟨⟨W, UW.out⟩⟩
      simp only [pick, List.getElem?_cons_zero, List.getElem?_cons_succ]
      have hmc : q ≤ c := by omega
      have hmn : q ≤ n := by omega
      have hnm : ¬ c = q := by omega
      repeat (refine wpStillC_step (fun K hK => ?_); go_simp; refine hK _ ?_; clear hK K)
      refine wpStillC_nil ?_
      clear hmc hmn hnm
      refine wpChain_step (fun K hK => ?_)
      go_simp
      refine (T1.out W UW.out).mono ?_
      rintro e w1 ⟨rfl, u1⟩
      refine hK _ _ (inC (Up.trans UW.out u1)) ?_
      clear hK K
      refine wpChain_step (fun K hK => ?_)
      go_simp
      refine (T2.out w1 (Up.trans UW.out u1)).mono ?_
      rintro e w2 ⟨rfl, u2⟩
      have U2' := Up.trans u1 u2
      refine hK _ _ (inC (Up.trans UW.out U2')) ?_
      clear hK K u1 u2
      refine wpChain_step (fun K hK => ?_)
      go_simp
      refine (ND.out w2 (Up.trans UW.out U2')).mono ?_
      rintro e w3 ⟨rfl, u3⟩
      have U3' := Up.trans U2' u3
      refine hK _ _ (inC (Up.trans UW.out U3')) ?_
      clear hK K u3 U2'
      have D3 := (U3'.block bd (lt_of_block DW.out)).trans DW.out
      refine wpChain_want rfl (fun K hK => ?_)
      refine wp_store_row 28 (.tmp 2) (.tmp 26) rfl bd D rfl rfl 28 _ D3 (by rw [HDs.out]; rfl) (by rw [HZ2.out, HDs.out]) HDc.out ?_
      have U4 : Up w (w3.setRow bd D) := below_setRow (Up.trans UW.out U3') (by rw [HBd.out]; exact Nat.le_refl _) _
      refine hK _ _ (inC U4) ?_
      clear hK K
      refine wpChain_nil ?_
      go_wp2
      refine bodyPost_ret (results_cell_row rfl _ _ bd _ D (0, 0) _ rfl (setRow_heap _ _ _ _ _ _ D3) rfl rfl (by rw [HDs.out]; rfl)) rfl ⟨rfl, U4⟩

end Go.Proofs.YtobcfhninchnkaaDoor

namespace Go.Proofs.YtobcfhninchnkaaDoor
open Go Go.RowKit
set_option linter.unusedVariables false
set_option maxRecDepth 100000

/-- the farm ahead of a place -/
def lastF (l : List Sh) : Nat → Int
  | 0 => -1
  | i + 1 => match l[i]? with | some x => x.farm | none => -1
theorem lastF_succ {l : List Sh} {i : Nat} (h : i < l.length) : lastF l (i + 1) = l[i].farm := by simp [lastF, h]
theorem fineB_farm {x : Sh} (h : fineB x = true) : 0 ≤ x.farm := by
  simp only [fineB, inB, Bool.and_eq_true, decide_eq_true_eq] at h
  exact h.1.1.1.1.1

set_option maxHeartbeats 2000000 in
theorem rcheck_calls (p : Option Addr) (n c : Nat) (ls : List Sh) (w : World) (hn : n = ls.length) (h : Shares w p ls) (hc : n ≤ c) (hcm : c ≤ maxLen) :
    Calls Tryd.prog 26 #[.slice p n c] w fun e w' => e = .returned (.int .i64 (chkE ls)) ∧ Up w w' := by
  by_cases h0 : n = 0
  case pos =>
    subst h0
    have hv : chkE ls = 2 := by unfold chkE; rw [if_pos (.inl hn.symm)]
    rw [hv]
    clear hv h hn
    go_enter Tryd.func26, Tryd.ntmps26
    go_wp2
    go_ret
    exact ⟨rfl, Up.refl _⟩
  have d0 : decide ((n : Int) < 1) = false := by simp; omega
  by_cases h6 : 600 < n
  case pos =>
    have hv : chkE ls = 2 := by unfold chkE; rw [if_pos (.inr (by omega))]
    rw [hv]
    have d6 : decide ((600 : Int) < n) = true := by simp; omega
    clear hv h hn
    go_enter Tryd.func26, Tryd.ntmps26
    go_wp2
    go_ret
    exact ⟨rfl, Up.refl _⟩
  have d6 : decide ((600 : Int) < n) = false := by simp; omega
  have hv : chkE ls = if chkFrom (-1) ls then 0 else 570 := by unfold chkE; rw [if_neg (by omega)]
  rw [hv]
  obtain ⟨b, o, rfl, hrg⟩ := h (by rintro rfl; simp at hn; omega)
  have HN := Lib.hid hn
  obtain ⟨V, hV⟩ : ∃ V : Int, V = if chkFrom (-1) ls then 0 else 570 := ⟨_, rfl⟩
  rw [← hV]
  have HV := Lib.hid hV
  have HRG := Lib.hid hrg
  clear hv h hn hV hrg
  go_enter Tryd.func26, Tryd.ntmps26
  go_wp2
  go_loopw [3] (fun v3 wq => ∃ i : Nat, i ≤ n ∧ v3 = .int .i64 i ∧ Hid (chkFrom (-1) ls = chkFrom (lastF ls i) (ls.drop i)) ∧ Hid (Up w wq))
    (fun v3 _ => n - (intOf v3).toNat)
  case atStart => exact ⟨0, by omega, rfl, rfl, Up.refl _⟩
  case round =>
    obtain ⟨i, hi, rfl, HC, HU⟩ := hrel
    by_cases hlt : i < n
    case neg =>
      have e : i = n := by omega
      subst e
      have hv : V = 0 := by rw [HV.out, HC.out, HN.out, List.drop_of_length_le (Nat.le_refl _)]; rfl
      subst hv
      go_wp2
      go_ret
      exact ⟨rfl, HU.out⟩
    have hi2 : i < ls.length := by rw [← HN.out]; exact hlt
    have hc2 := HC.out
    rw [List.drop_eq_getElem_cons hi2, chkFrom] at hc2
    have hls := lastF_succ hi2
    have g := HRG.out i hi2
    obtain ⟨x, hx⟩ : ∃ x, x = ls[i] := ⟨_, rfl⟩
    rw [← hx] at hc2 g hls
    rw [← hls] at hc2
    have G : Hid (wr.rangeAt b (o + i * 5) (shCells x).toList) := rangeAt_up g HU.out
    have FN := Lib.hid fun W => rshare_calls x W
    have HC2 := Lib.hid hc2
    have HLS := Lib.hid hls
    obtain ⟨A, hA⟩ : ∃ A, A = shCells x := ⟨_, rfl⟩
    have hA0 : A.toList[0]? = some (.int .i64 x.farm) := by rw [hA]; rfl
    have hAs : A.size = 5 := by rw [hA]; rfl
    rw [← hA] at G FN
    have HA0 := Lib.hid hA0
    have HAs := Lib.hid hAs
    obtain ⟨fb, hfb⟩ : ∃ fb, fb = fineB x := ⟨_, rfl⟩
    rw [← hfb] at HC2 FN
    have hfa : fb = true → 0 ≤ x.farm := fun e => fineB_farm (by rw [← hfb]; exact e)
    have HFA := Lib.hid hfa
    clear hA hA0 hAs g hc2 hx hfb hls hfa
    haveI := UpW.some_ wr.drew
    have hz := Lib.hid fun (z : UpW wr.drew) => (Up.trans (Up.refl wr).drew z.up : Up wr z.w)
    cases fb
    case false =>
      go_wp2_with fail
      refine wp_region_up_k (by kernel_rfl) (by kernel_rfl) ?_
      intro R HRR
      have HRR' := Lib.hid HRR
      clear HRR
      repeat (first | ((with_reducible show wpQuiet _ _ _ _ (Oper.mk _ (Op.load _ (Operand.tmp 20)) _ _ _ _ :: _) _); refine wpQuiet_load_arr (by rfl) 38 (.tmp 20) rfl b (o + i * 5) rfl A _ (fun w' hw' => by (obtain ⟨z, rfl⟩ := hw'; exact rangeAt_up G.out (hz.out z))) rfl rfl (by rw [HAs.out]; rfl) ?_) | ((with_reducible show wpQuiet _ _ _ _ (Oper.mk (some 22) _ _ _ _ _ :: _) _); with_reducible refine wpQuiet_step (fun K hK => ?_); go_simp; apply Exists.intro; refine ⟨fun _ => ?_, hK _ ?_⟩; (go_at_call 39; with_reducible exact Calls.quiet_up (FN.out _)); clear hK K) | go_big_quiet_skip | (with_reducible refine wpQuiet_step (fun K hK => ?_); go_simp; with_reducible refine hK _ ?_; clear hK K))
      refine wpQuiet_nil ?_
      refine HRR'.out _ ?_
      rintro w4 ⟨z, hz4⟩
      have U4 : Hid (Up w w4) := by show Up _ _; rw [hz4]; exact Up.trans HU.out (hz.out z)
      clear hz4 HRR' hz FN
      have hv : V = 570 := by rw [HV.out, HC2.out]; rfl
      subst hv
      go_wp2
      go_ret
      exact ⟨rfl, U4.out⟩
    have hfarm := HFA.out rfl
    by_cases hi0 : i = 0
    case pos =>
      subst hi0
      have HC3 : Hid (chkFrom (-1) ls = chkFrom (lastF ls 1) (ls.drop 1)) := by
        show _ = _; rw [HC2.out]
        have : decide (lastF ls 0 < lastF ls (0 + 1)) = true := by rw [HLS.out]; show decide ((-1 : Int) < x.farm) = true; simp; omega
        rw [this]; rfl
      have G0 : Hid (wr.rangeAt b o A.toList) := by show wr.rangeAt b o A.toList; have := G.out; simpa using this
      clear hfarm
      go_wp2_with fail
      refine wp_region_up_k (by kernel_rfl) (by kernel_rfl) ?_
      intro R HRR
      have HRR' := Lib.hid HRR
      clear HRR
      repeat (first | ((with_reducible show wpQuiet _ _ _ _ (Oper.mk _ (Op.load _ (Operand.tmp 20)) _ _ _ _ :: _) _); refine wpQuiet_load_arr (by rfl) 38 (.tmp 20) rfl b o rfl A _ (fun w' hw' => by (obtain ⟨z, rfl⟩ := hw'; exact rangeAt_up G0.out (hz.out z))) rfl rfl (by rw [HAs.out]; rfl) ?_) | ((with_reducible show wpQuiet _ _ _ _ (Oper.mk (some 22) _ _ _ _ _ :: _) _); with_reducible refine wpQuiet_step (fun K hK => ?_); go_simp; apply Exists.intro; refine ⟨fun _ => ?_, hK _ ?_⟩; (go_at_call 39; with_reducible exact Calls.quiet_up (FN.out _)); clear hK K) | go_big_quiet_skip | (with_reducible refine wpQuiet_step (fun K hK => ?_); go_simp; with_reducible refine hK _ ?_; clear hK K))
      refine wpQuiet_nil ?_
      refine HRR'.out _ ?_
      rintro w4 ⟨z, hz4⟩
      have U4 : Hid (Up w w4) := by show Up _ _; rw [hz4]; exact Up.trans HU.out (hz.out z)
      clear hz4 HRR' hz FN
      go_wp2
      exact ⟨⟨1, by omega, by go_num, HC3, U4⟩, by simp [intOf]; omega⟩
    obtain ⟨j, hj⟩ : ∃ j, i = j + 1 := ⟨i - 1, by omega⟩
    have hj2 : j < ls.length := by omega
    have g := HRG.out j hj2
    have hlj := lastF_succ hj2
    rw [← hj] at hlj
    obtain ⟨y, hy⟩ : ∃ y, y = ls[j] := ⟨_, rfl⟩
    rw [← hy] at g hlj
    rw [hlj] at HC2
    rw [HLS.out] at HC2
    have GY := Lib.hid (rangeAt_up g HU.out)
    have k1 : ∀ z : UpW wr.drew, z.w.cell? ⟨b, o + i * 5, none⟩ = some (.int .i64 x.farm) := fun z => by
      have := rangeAt_up G.out (hz.out z) 0 _ HA0.out
      simpa using this
    have k2 : ∀ z : UpW wr.drew, z.w.cell? ⟨b, o + j * 5, none⟩ = some (.int .i64 y.farm) := fun z => by
      have := rangeAt_up GY.out (hz.out z) 0 (.int .i64 y.farm) rfl
      simpa using this
    have e1 : IntKind.i64.wrap ((i : Int) - 1) = (j : Int) := by rw [hj, IntWalk.i64_in _ (by omega)]; omega
    have hjn : j < n := by omega
    have hi1 : decide ((0 : Int) < (i : Int)) = true := by simp; omega
    have hi1' : 0 < i := by omega
    have HLS2 := Lib.hid HLS.out
    clear g hlj hy hj hj2 hfarm GY
    by_cases hlast : y.farm < x.farm
    case neg =>
      have d5 : decide (x.farm ≤ y.farm) = true := by simp; omega
      go_wp2_with fail
      refine wp_region_up_k (by kernel_rfl) (by kernel_rfl) ?_
      intro R HRR
      have HRR' := Lib.hid HRR
      clear HRR
      repeat (first | ((with_reducible show wpQuiet _ _ _ _ (Oper.mk _ (Op.load _ (Operand.tmp 20)) _ _ _ _ :: _) _); refine wpQuiet_load_arr (by rfl) 38 (.tmp 20) rfl b (o + i * 5) rfl A _ (fun w' hw' => by (obtain ⟨z, rfl⟩ := hw'; exact rangeAt_up G.out (hz.out z))) rfl rfl (by rw [HAs.out]; rfl) ?_) | ((with_reducible show wpQuiet _ _ _ _ (Oper.mk (some 22) _ _ _ _ _ :: _) _); with_reducible refine wpQuiet_step (fun K hK => ?_); go_simp; apply Exists.intro; refine ⟨fun _ => ?_, hK _ ?_⟩; (go_at_call 39; with_reducible exact Calls.quiet_up (FN.out _)); clear hK K) | go_big_quiet_skip | (with_reducible refine wpQuiet_step (fun K hK => ?_); go_simp; with_reducible refine hK _ ?_; clear hK K))
      refine wpQuiet_nil ?_
      refine HRR'.out _ ?_
      rintro w4 ⟨z, hz4⟩
      have U4 : Hid (Up w w4) := by show Up _ _; rw [hz4]; exact Up.trans HU.out (hz.out z)
      clear hz4 HRR' hz FN
      clear k1 k2 e1
      have hv : V = 570 := by rw [HV.out, HC2.out]; rw [show decide (y.farm < x.farm) = false from decide_eq_false (by omega)]; simp
      subst hv
      go_wp2
      go_ret
      exact ⟨rfl, U4.out⟩
    have d5 : decide (x.farm ≤ y.farm) = false := by simp; omega
    have HC3 : Hid (chkFrom (-1) ls = chkFrom (lastF ls (i + 1)) (ls.drop (i + 1))) := by show _ = _; rw [HC2.out, HLS2.out]; simp [hlast]
    go_wp2_with fail
    refine wp_region_up_k (by kernel_rfl) (by kernel_rfl) ?_
    intro R HRR
    have HRR' := Lib.hid HRR
    clear HRR
    repeat (first | ((with_reducible show wpQuiet _ _ _ _ (Oper.mk _ (Op.load _ (Operand.tmp 20)) _ _ _ _ :: _) _); refine wpQuiet_load_arr (by rfl) 38 (.tmp 20) rfl b (o + i * 5) rfl A _ (fun w' hw' => by (obtain ⟨z, rfl⟩ := hw'; exact rangeAt_up G.out (hz.out z))) rfl rfl (by rw [HAs.out]; rfl) ?_) | ((with_reducible show wpQuiet _ _ _ _ (Oper.mk (some 22) _ _ _ _ _ :: _) _); with_reducible refine wpQuiet_step (fun K hK => ?_); go_simp; apply Exists.intro; refine ⟨fun _ => ?_, hK _ ?_⟩; (go_at_call 39; with_reducible exact Calls.quiet_up (FN.out _)); clear hK K) | go_big_quiet_skip | (with_reducible refine wpQuiet_step (fun K hK => ?_); go_simp; with_reducible refine hK _ ?_; clear hK K))
    refine wpQuiet_nil ?_
    refine HRR'.out _ ?_
    rintro w4 ⟨z, hz4⟩
    have U4 : Hid (Up w w4) := by show Up _ _; rw [hz4]; exact Up.trans HU.out (hz.out z)
    clear hz4 HRR' hz FN
    clear k1 k2 e1 d5
    go_wp2
    exact ⟨⟨i + 1, by omega, by go_num, HC3, U4⟩, by simp [intOf]; omega⟩

set_option maxHeartbeats 1000000 in
theorem rroot_calls (p : Option Addr) (n c : Nat) (ls : List Sh) (w : World) (hn : n = ls.length) (h : Shares w p ls) (hc : n ≤ c) (hcm : c ≤ maxLen) (htab : Tabs w) :
    Calls Tryd.prog 10 #[.slice p n c] w fun e w' => e = .returned (.tuple #[.agg (smCells (rootS ls)).toArray, .int .i64 (chkE ls)]) ∧ Up w w' := by
  have CK := Lib.hid fun W (hu : Up w W) => rcheck_calls p n c ls W hn (h.up hu) hc hcm
  have TR : Hid (chkE ls = 0 → ∀ W, Up w W → Calls Tryd.prog 27 #[.slice p n c] W fun e w' => e = .returned (.agg (smCells (rootS ls)).toArray) ∧ Up W w') := fun h0 W hu => by
    obtain ⟨h1, h2, h3⟩ := chkE_ok h0
    have : 1 ≤ n := by rw [hn]; exact List.length_pos_iff.2 h1
    have e : rootS ls = treeS ls := by unfold rootS; rw [if_pos h0]
    rw [e]
    exact rtree_calls n p n c ls W rfl hn this (by omega) h3 (h.up hu) hc hcm (htab.up hu)
  have hz : Hid (chkE ls ≠ 0 → rootS ls = zeroS) := fun h0 => by unfold rootS; rw [if_neg h0]
  have hDs : Hid ((smCells (rootS ls)).toArray.size = 35) := by
    have hl : (rootS ls).hash.length = 32 := by
      unfold rootS
      split
      · rename_i h0
        obtain ⟨h1, h2, h3⟩ := chkE_ok h0
        exact (treeS_ok h1 (by omega) h3).hash
      · rfl
    have := smCells_len (s := rootS ls) hl
    show _ = _
    simpa using this
  have hDc : Hid ((smCells (rootS ls)).toArray.all (·.oneCell') = true) := smCells_all _
  have hzs : Hid ((smCells zeroS).toArray.size = 35) := by show _ = _; simp [smCells, zeroS, u8s]
  have hza : Hid (AllocsZ Tryd.prog 28 (smCells zeroS).toArray) := allocsSumZ
  have BZ : Hid (Tryd.prog.built 28 [] = some (smCells zeroS).toArray) := by show _ = _; kernel_rfl
  obtain ⟨Z, hZ⟩ : ∃ Z, Z = (smCells zeroS).toArray := ⟨_, rfl⟩
  obtain ⟨D, hD⟩ : ∃ D, D = (smCells (rootS ls)).toArray := ⟨_, rfl⟩
  have HZD : Hid (chkE ls ≠ 0 → D = Z) := fun h0 => by rw [hD, hZ, hz.out h0]
  rw [← hD] at TR hDs hDc ⊢
  rw [← hZ] at hzs hza BZ
  obtain ⟨ee, hee⟩ : ∃ ee, ee = chkE ls := ⟨_, rfl⟩
  rw [← hee] at CK TR HZD ⊢
  clear hD hZ hz htab h hn hee
  go_enter Tryd.func10, Tryd.ntmps10
  go_wp2_with (refine wpList_allocZ rfl 28 Z hza.out rfl ?_; intro W2 u2 z2 hb2; have U2 := Lib.hid u2; have HB2 := Lib.hid hb2; clear u2 z2 hb2)
  obtain ⟨bd, hbd⟩ : ∃ b, b = w.heap.size := ⟨_, rfl⟩
  have HB3 := HB2.out
  rw [← hbd] at HB3 ⊢
  have HBd := Lib.hid hbd
  have HB4 := Lib.hid HB3
  clear hbd HB3 HB2
  refine (CK.out W2 U2.out).mono ?_
  rintro e w5 ⟨rfl, u5⟩
  have X5 := Lib.hid ((u5.block bd (lt_of_block HB4.out)).trans HB4.out)
  have U5 : Hid (Up w w5) := Up.trans U2.out u5
  clear u5
  by_cases h0 : ee = 0
  case neg =>
    have d0 : (ee != 0) = true := by rw [bne_iff_ne]; exact h0
    have d0' : (ee == 0) = false := by rw [beq_eq_false_iff_ne]; exact h0
    obtain rfl := HZD.out h0
    clear h0
    go_wp2_with (first | (refine wpList_buildTo rfl 28 #[] rfl (some 9) rfl D (by simpa [Act.eval] using BZ.out) ?_) | (refine wpList_store_row rfl 28 (.tmp 2) (.tmp 9) rfl bd D rfl rfl 28 _ X5.out (by rw [hDs.out]; rfl) rfl hDc.out ?_))
    refine bodyPost_ret (results_cell_row_tmp rfl _ _ bd _ D (0, 0) _ rfl (setRow_heap _ _ _ _ _ _ X5.out) rfl rfl (by rw [hDs.out]; rfl)) rfl ⟨rfl, below_setRow U5.out (by rw [HBd.out]; exact Nat.le_refl _) _⟩
  have TR2 := Lib.hid (TR.out h0)
  clear TR HZD
  subst h0
  go_wp2_with fail
  refine (TR2.out w5 U5.out).mono ?_
  rintro e w6 ⟨rfl, u6⟩
  have X6 := Lib.hid ((u6.block bd (lt_of_block X5.out)).trans X5.out)
  have U6 : Hid (Up w w6) := Up.trans U5.out u6
  clear u6
  go_wp2_with (refine wpList_store_row rfl 28 (.tmp 2) (.tmp 12) rfl bd D rfl rfl 28 _ X6.out (by rw [hDs.out]; rfl) (by rw [hzs.out, hDs.out]) hDc.out ?_)
  refine bodyPost_ret (results_cell_row_tmp rfl _ _ bd _ D (0, 0) _ rfl (setRow_heap _ _ _ _ _ _ X6.out) rfl rfl (by rw [hDs.out]; rfl)) rfl ⟨rfl, below_setRow U6.out (by rw [HBd.out]; exact Nat.le_refl _) _⟩

end Go.Proofs.YtobcfhninchnkaaDoor

namespace Go.Proofs.YtobcfhninchnkaaDoor
open Go Go.RowKit
set_option linter.unusedVariables false
set_option maxRecDepth 100000

def RetQ (w : World) (l : List Sm) (e : Ending) (w' : World) : Prop := ∃ v, e = .returned v ∧ OwnR w' w.heap.size 28 35 smCells v l ∧ Up w w'

theorem pathS_one {l : List Sh} (i : Nat) (h : l.length ≤ 1) : pathS l i = [] := by unfold pathS; rw [pathD_one i h]; rfl
theorem pathS_left {l : List Sh} {i : Nat} (h : 2 ≤ l.length) (hi : i < hf l.length) : pathS l i = pathS (l.take (hf l.length)) i ++ [treeS (l.drop (hf l.length))] := by
  unfold pathS; rw [pathD_left h hi, List.reverse_cons]
theorem pathS_right {l : List Sh} {i : Nat} (h : 2 ≤ l.length) (hi : hf l.length ≤ i) : pathS l i = pathS (l.drop (hf l.length)) (i - hf l.length) ++ [treeS (l.take (hf l.length))] := by
  unfold pathS; rw [pathD_right h hi, List.reverse_cons]
theorem pathS_ok {l : List Sh} {i : Nat} (hi : i < l.length) (hn : l.length ≤ 700) (hfi : ∀ x ∈ l, fineB x = true) : (∀ s ∈ pathS l i, s.ok) ∧ (pathS l i).length ≤ 700 := by
  obtain ⟨a, b⟩ := pathD_ok l.length l i rfl hi hn hfi
  have := turnsS_length l.length l.length i rfl
  unfold pathS
  exact ⟨fun s hs => a s (List.mem_reverse.1 hs), by rw [List.length_reverse]; omega⟩

set_option maxHeartbeats 4000000 in
theorem rpath_calls : ∀ (k : Nat) (p : Option Addr) (n c i : Nat) (ls : List Sh) (w : World), n = k → n = ls.length → i < n → n ≤ 700 → (∀ x ∈ ls, fineB x = true) → Shares w p ls → n ≤ c → c ≤ maxLen → Tabs w →
    Calls Tryd.prog 30 #[.slice p n c, .int .i64 i] w (RetQ w (pathS ls i)) := by
  intro k
  induction k using Nat.strongRecOn with
  | ind k ih =>
    intro p n c i ls w hk hn hin hn7 hfi hsh hc hcm htab
    have HT := Lib.hid htab
    obtain ⟨b, o, rfl, hrg⟩ := hsh (by rintro rfl; simp at hn; omega)
    by_cases h2 : n = 1
    case pos =>
      have hp : pathS ls i = [] := pathS_one i (by omega)
      rw [hp]
      clear hp hn htab hrg hsh hfi ih hk
      subst h2
      go_enter Tryd.func30, Tryd.ntmps30
      go_wp2
      go_ret
      exact ⟨_, rfl, OwnR.nil, Up.refl _⟩
    have d1 : ((n : Int) == 1) = false := by rw [beq_eq_false_iff_ne]; omega
    have h2n : 2 ≤ n := by omega
    have hlt := hf_lt h2n
    have hpos := hf_pos n
    have hl1 : (ls.take (hf n)).length = hf n := by rw [List.length_take]; omega
    have hl2 : (ls.drop (hf n)).length = n - hf n := by rw [List.length_drop]; omega
    have hne1 : ls.take (hf n) ≠ [] := fun e => by rw [e] at hl1; simp at hl1; omega
    have hne2 : ls.drop (hf n) ≠ [] := fun e => by rw [e] at hl2; simp at hl2; omega
    have hfi1 : ∀ x ∈ ls.take (hf n), fineB x = true := fun x hx => hfi x (List.mem_of_mem_take hx)
    have hfi2 : ∀ x ∈ ls.drop (hf n), fineB x = true := fun x hx => hfi x (List.mem_of_mem_drop hx)
    have ok1 := treeS_ok hne1 (by omega) hfi1
    have ok2 := treeS_ok hne2 (by omega) hfi2
    obtain ⟨ii, zz, hi, hzz, hi1, hi2, hi3⟩ := eltSum.info
    have HI := Lib.hid hi
    have HZ := Lib.hid hzz
    have HI1 := Lib.hid hi1
    clear hi hzz hi1 hi2 hi3 htab
    by_cases hj : i < hf n
    case pos =>
      have e0 : pathS ls i = pathS (ls.take (hf ls.length)) i ++ [treeS (ls.drop (hf ls.length))] := pathS_left (by omega) (by rw [← hn]; exact hj)
      rw [← hn] at e0
      rw [e0]
      have PT := Lib.hid fun W (hu : Up w W) => ih (hf n) (by omega) (some ⟨b, o, none⟩) (hf n) c i (ls.take (hf n)) W rfl hl1.symm (by omega) (by omega) hfi1 ((hsh.up hu).take _) (by omega) hcm (HT.out.up hu)
      have TR := Lib.hid fun W (hu : Up w W) => rtree_calls (n - hf n) (some ⟨b, o + hf n * 5, none⟩) (n - hf n) (c - hf n) (ls.drop (hf n)) W rfl hl2.symm (by omega) (by omega) hfi2 ((hsh.up hu).drop _) (by omega) (by omega) (HT.out.up hu)
      have hpo := pathS_ok (l := ls.take (hf n)) (i := i) (by omega) (by omega) hfi1
      have HPO := Lib.hid hpo.1
      have HPL := Lib.hid hpo.2
      obtain ⟨PP, hPP⟩ : ∃ P, P = pathS (ls.take (hf n)) i := ⟨_, rfl⟩
      rw [← hPP] at PT HPO HPL ⊢
      obtain ⟨T, hT⟩ : ∃ T, T = treeS (ls.drop (hf n)) := ⟨_, rfl⟩
      rw [← hT] at TR ok2 ⊢
      have HOT := Lib.hid ok2
      have hAs : Hid ((smCells T).toArray.size = 35) := by have := smCells_len ok2.hash; show _ = _; simpa using this
      have hAL : Hid ((smCells T).toArray.toList = smCells T) := by show _ = _; simp
      obtain ⟨A, hA⟩ : ∃ A, A = (smCells T).toArray := ⟨_, rfl⟩
      rw [← hA] at TR hAs hAL
      obtain ⟨q, hq⟩ : ∃ q, q = hf n := ⟨_, rfl⟩
      have HQ := Lib.hid hq
      rw [← hq] at PT TR hlt hpos hj
      clear hPP hT hA hq e0 hpo ok1 ok2 hfi1 hfi2 hne1 hne2 hl1 hl2 hfi ih hsh hrg hn hk
      go_enter Tryd.func30, Tryd.ntmps30
      go_wp2
      go_loop [5] (fun v3 => ∃ m : Nat, v3 = .int .i64 m ∧ Hid (Pow2 m) ∧ 0 < m ∧ m < n) (fun v3 => n - (intOf v3).toNat)
      case atStart => exact ⟨1, rfl, Pow2.one, by omega, by omega⟩
      case round =>
        obtain ⟨m, rfl, HP, hq0, hqn⟩ := hrel
        by_cases hlt2 : 2 * m < n
        case pos =>
          have HP2 : Hid (Pow2 (2 * m)) := HP.out.two
          have d3 : decide ((2 : Int) * (m : Int) < (n : Int)) = true := by simp; omega
          clear hj hlt hpos
          go_wp2
          exact ⟨⟨2 * m, by simp, HP2, by omega, hlt2⟩, by simp [intOf]; omega⟩
        have d3 : decide ((2 : Int) * (m : Int) < (n : Int)) = false := by simp; omega
        obtain rfl : m = q := by rw [HQ.out]; exact HP.out.hf hqn (by omega)
        have d4 : decide ((i : Int) < (m : Int)) = true := by simp; omega
        clear HQ HP hlt2
        go_wp2_with fail
        refine wp_region_mix_at [0, 1, 2, 3, 5, 6, 7] [4, 8, 9, 10, 11] (by kernel_rfl) (by kernel_rfl) (fun _ _ d _ _ h => by cases d <;> exact h) ?_
        intro W U hW
        have UW : Hid (Up w W) := U
        clear U hW d3 d4
        refine ⟨fun W' => Up w W', UW.out, ?_⟩
        haveI : Nonempty (InC (fun W' => Up w W')) := ⟨⟨W, UW.out⟩⟩
        simp only [pick, List.getElem?_cons_zero, List.getElem?_cons_succ]
        have hmc : m ≤ c := by omega
        have hmn : m ≤ n := by omega
        have hnm : ¬ c = m := by omega
        repeat (refine wpStillC_step (fun K hK => ?_); go_simp; refine hK _ ?_; clear hK K)
        refine wpStillC_nil ?_
        clear hmc hmn hnm
        refine wpChain_step (fun K hK => ?_)
        go_simp
        refine (PT.out W UW.out).mono ?_
        rintro e w1 ⟨v, rfl, o1, u1⟩
        obtain ⟨p1, c1, rfl, -, -, -, -⟩ := o1.form (fun x hx => smCells_len (HPO.out x hx).hash)
        have U1 : Hid (Up w w1) := Up.trans UW.out u1
        have O1 := Lib.hid (o1.less UW.out.size)
        refine hK _ _ (inC U1.out) ?_
        clear hK K o1 u1
        refine wpChain_step (fun K hK => ?_)
        go_simp
        refine (TR.out w1 U1.out).mono ?_
        rintro e w2 ⟨rfl, u2⟩
        have U2 : Hid (Up w w2) := Up.trans U1.out u2
        have O2 := Lib.hid (O1.out.up u2)
        refine hK _ _ (inC U2.out) ?_
        clear hK K u2
        refine wpChain_want rfl (fun K hK => ?_)
        refine wp_buildSlice 32 28 1 #[(0, .tmp 27)] rfl A ii zz rfl HI.out HZ.out (by rw [HI1.out]; decide) (by rw [HI1.out]; decide) (by (simp only [List.map_toArray, List.map_cons, List.map_nil]; exact fill_row (zz := zz) HI1.out (by omega) A hAs.out)) ?_
        have hu : Up w2 (w2.alloc (.cells A 28 (0, 0))) := (Up.refl w2).alloc _
        have hrA : RowAt (w2.alloc (.cells A 28 (0, 0))) (some ⟨w2.heap.size, 0, none⟩) 35 smCells [T] := rowAt_one hAL.out (heap_new rfl)
        refine hK _ _ (inC (Up.trans U2.out hu)) ?_
        clear hK K
        refine wpChain_want rfl (fun K hK => ?_)
        refine wp_appR (.tmp 23) (.tmp 28) eltSum (by omega) rfl rfl w.heap.size _ PP _ 1 1 [T] rfl rfl rfl (fun x hx => (List.mem_append.1 hx).elim (fun h => smCells_len (HPO.out x h).hash) (fun h => by (rw [List.mem_singleton.1 h]; exact smCells_len HOT.out.hash))) (fun x _ => smCells_one x) (O2.out.up hu) hrA (by have := HPL.out; simp; omega) (Nat.le_trans U2.out.size hu.size) ?_
        intro p' m' d' w7 o7 b7 g7
        have O7 := Lib.hid o7
        have U7 : Hid (Up w w7) := Below.trans (Up.trans U2.out hu) b7
        refine hK _ _ (inC U7.out) ?_
        clear hK K o7 b7 g7 hu hrA
        refine wpChain_step (fun K hK => ?_)
        go_simp
        refine hK _ _ (inC U7.out) ?_
        clear hK K
        refine wpChain_nil ?_
        go_wp2
        go_ret
        exact ⟨_, rfl, O7.out, U7.out⟩
    case neg =>
      have e0 : pathS ls i = pathS (ls.drop (hf ls.length)) (i - hf ls.length) ++ [treeS (ls.take (hf ls.length))] := pathS_right (by omega) (by rw [← hn]; omega)
      rw [← hn] at e0
      rw [e0]
      have PT := Lib.hid fun W (hu : Up w W) => ih (n - hf n) (by omega) (some ⟨b, o + hf n * 5, none⟩) (n - hf n) (c - hf n) (i - hf n) (ls.drop (hf n)) W rfl hl2.symm (by omega) (by omega) hfi2 ((hsh.up hu).drop _) (by omega) (by omega) (HT.out.up hu)
      have TR := Lib.hid fun W (hu : Up w W) => rtree_calls (hf n) (some ⟨b, o, none⟩) (hf n) c (ls.take (hf n)) W rfl hl1.symm (by omega) (by omega) hfi1 ((hsh.up hu).take _) (by omega) hcm (HT.out.up hu)
      have hpo := pathS_ok (l := ls.drop (hf n)) (i := (i - hf n)) (by omega) (by omega) hfi2
      have HPO := Lib.hid hpo.1
      have HPL := Lib.hid hpo.2
      obtain ⟨PP, hPP⟩ : ∃ P, P = pathS (ls.drop (hf n)) (i - hf n) := ⟨_, rfl⟩
      rw [← hPP] at PT HPO HPL ⊢
      obtain ⟨T, hT⟩ : ∃ T, T = treeS (ls.take (hf n)) := ⟨_, rfl⟩
      rw [← hT] at TR ok1 ⊢
      have HOT := Lib.hid ok1
      have hAs : Hid ((smCells T).toArray.size = 35) := by have := smCells_len ok1.hash; show _ = _; simpa using this
      have hAL : Hid ((smCells T).toArray.toList = smCells T) := by show _ = _; simp
      obtain ⟨A, hA⟩ : ∃ A, A = (smCells T).toArray := ⟨_, rfl⟩
      rw [← hA] at TR hAs hAL
      obtain ⟨q, hq⟩ : ∃ q, q = hf n := ⟨_, rfl⟩
      have HQ := Lib.hid hq
      obtain ⟨i2, hi2⟩ : ∃ i2, i2 = i - hf n := ⟨_, rfl⟩
      rw [← hi2] at PT
      have e1 : IntKind.i64.wrap ((i : Int) - (q : Int)) = (i2 : Int) := by rw [IntWalk.i64_in _ (by omega)]; omega
      rw [← hq] at PT TR hlt hpos hj
      clear hPP hT hA hq hi2 e0 hpo ok1 ok2 hfi1 hfi2 hne1 hne2 hl1 hl2 hfi ih hsh hrg hn hk
      go_enter Tryd.func30, Tryd.ntmps30
      go_wp2
      go_loop [5] (fun v3 => ∃ m : Nat, v3 = .int .i64 m ∧ Hid (Pow2 m) ∧ 0 < m ∧ m < n) (fun v3 => n - (intOf v3).toNat)
      case atStart => exact ⟨1, rfl, Pow2.one, by omega, by omega⟩
      case round =>
        obtain ⟨m, rfl, HP, hq0, hqn⟩ := hrel
        by_cases hlt2 : 2 * m < n
        case pos =>
          have HP2 : Hid (Pow2 (2 * m)) := HP.out.two
          have d3 : decide ((2 : Int) * (m : Int) < (n : Int)) = true := by simp; omega
          clear e1 hj hlt hpos
          go_wp2
          exact ⟨⟨2 * m, by simp, HP2, by omega, hlt2⟩, by simp [intOf]; omega⟩
        have d3 : decide ((2 : Int) * (m : Int) < (n : Int)) = false := by simp; omega
        obtain rfl : m = q := by rw [HQ.out]; exact HP.out.hf hqn (by omega)
        have d4 : decide ((i : Int) < (m : Int)) = false := by simp; omega
        clear HQ HP hlt2
        go_wp2_with fail
        refine wp_region_mix_at [0, 1, 2, 3, 4, 5, 7, 8, 9] [6, 10, 11, 12, 13] (by kernel_rfl) (by kernel_rfl) (fun _ _ d _ _ h => by cases d <;> exact h) ?_
        intro W U hW
        have UW : Hid (Up w W) := U
        clear U hW d3 d4
        refine ⟨fun W' => Up w W', UW.out, ?_⟩
        haveI : Nonempty (InC (fun W' => Up w W')) := ⟨⟨W, UW.out⟩⟩
        simp only [pick, List.getElem?_cons_zero, List.getElem?_cons_succ]
        have hmc : m ≤ c := by omega
        have hmn : m ≤ n := by omega
        have hnm : ¬ c = m := by omega
        repeat (refine wpStillC_step (fun K hK => ?_); go_simp; refine hK _ ?_; clear hK K)
        refine wpStillC_nil ?_
        clear hmc hmn hnm
        refine wpChain_step (fun K hK => ?_)
        go_simp
        refine (PT.out W UW.out).mono ?_
        rintro e w1 ⟨v, rfl, o1, u1⟩
        obtain ⟨p1, c1, rfl, -, -, -, -⟩ := o1.form (fun x hx => smCells_len (HPO.out x hx).hash)
        have U1 : Hid (Up w w1) := Up.trans UW.out u1
        have O1 := Lib.hid (o1.less UW.out.size)
        refine hK _ _ (inC U1.out) ?_
        clear hK K o1 u1
        refine wpChain_step (fun K hK => ?_)
        go_simp
        refine (TR.out w1 U1.out).mono ?_
        rintro e w2 ⟨rfl, u2⟩
        have U2 : Hid (Up w w2) := Up.trans U1.out u2
        have O2 := Lib.hid (O1.out.up u2)
        refine hK _ _ (inC U2.out) ?_
        clear hK K u2
        refine wpChain_want rfl (fun K hK => ?_)
        refine wp_buildSlice 32 28 1 #[(0, .tmp 40)] rfl A ii zz rfl HI.out HZ.out (by rw [HI1.out]; decide) (by rw [HI1.out]; decide) (by (simp only [List.map_toArray, List.map_cons, List.map_nil]; exact fill_row (zz := zz) HI1.out (by omega) A hAs.out)) ?_
        have hu : Up w2 (w2.alloc (.cells A 28 (0, 0))) := (Up.refl w2).alloc _
        have hrA : RowAt (w2.alloc (.cells A 28 (0, 0))) (some ⟨w2.heap.size, 0, none⟩) 35 smCells [T] := rowAt_one hAL.out (heap_new rfl)
        refine hK _ _ (inC (Up.trans U2.out hu)) ?_
        clear hK K
        refine wpChain_want rfl (fun K hK => ?_)
        refine wp_appR (.tmp 36) (.tmp 41) eltSum (by omega) rfl rfl w.heap.size _ PP _ 1 1 [T] rfl rfl rfl (fun x hx => (List.mem_append.1 hx).elim (fun h => smCells_len (HPO.out x h).hash) (fun h => by (rw [List.mem_singleton.1 h]; exact smCells_len HOT.out.hash))) (fun x _ => smCells_one x) (O2.out.up hu) hrA (by have := HPL.out; simp; omega) (Nat.le_trans U2.out.size hu.size) ?_
        intro p' m' d' w7 o7 b7 g7
        have O7 := Lib.hid o7
        have U7 : Hid (Up w w7) := Below.trans (Up.trans U2.out hu) b7
        refine hK _ _ (inC U7.out) ?_
        clear hK K o7 b7 g7 hu hrA
        refine wpChain_step (fun K hK => ?_)
        go_simp
        refine hK _ _ (inC U7.out) ?_
        clear hK K
        refine wpChain_nil ?_
        go_wp2
        go_ret
        exact ⟨_, rfl, O7.out, U7.out⟩

set_option maxHeartbeats 1000000 in
theorem rprove_calls (p : Option Addr) (n c : Nat) (ls : List Sh) (i : Int) (w : World) (hn : n = ls.length) (h : Shares w p ls) (hc : n ≤ c) (hcm : c ≤ maxLen) (htab : Tabs w) :
    Calls Tryd.prog 12 #[.slice p n c, .int .i64 i] w (RetP w (provS ls i) (provE ls i)) := by
  have CK := Lib.hid (rcheck_calls p n c ls w hn h hc hcm)
  by_cases h0 : chkE ls = 0
  case neg =>
    have e1 : provE ls i = chkE ls := by unfold provE; rw [if_pos h0]
    have e2 : provS ls i = [] := by unfold provS; rw [e1, if_neg h0]
    rw [e1, e2]
    obtain ⟨ee, hee⟩ : ∃ ee, ee = chkE ls := ⟨_, rfl⟩
    rw [← hee] at CK h0 ⊢
    have d0 : (ee != 0) = true := by rw [bne_iff_ne]; exact h0
    have d0' : (ee == 0) = false := by rw [beq_eq_false_iff_ne]; exact h0
    clear e1 e2 hee h0 hn h htab
    go_enter Tryd.func12, Tryd.ntmps12
    go_wp2_with fail
    refine CK.out.mono ?_
    rintro e w5 ⟨rfl, u5⟩
    have U5 := Lib.hid u5
    clear u5
    go_wp2
    go_ret2
    exact ⟨_, rfl, OwnR.nil, U5.out⟩
  rw [h0] at CK
  by_cases hb : i < 0 ∨ (n : Int) ≤ i
  case pos =>
    have e1 : provE ls i = 1 := by unfold provE; rw [if_neg (by omega), if_pos (by omega)]
    have e2 : provS ls i = [] := by unfold provS; rw [e1]; rfl
    rw [e1, e2]
    clear e1 e2 h0 hn h htab
    rcases Classical.em (i < 0) with h1 | h1
    · have d1 : decide (i < 0) = true := by simp; omega
      clear hb
      go_enter Tryd.func12, Tryd.ntmps12
      go_wp2_with fail
      refine CK.out.mono ?_
      rintro e w5 ⟨rfl, u5⟩
      have U5 := Lib.hid u5
      clear u5
      go_wp2
      go_ret2
      exact ⟨_, rfl, OwnR.nil, U5.out⟩
    · have d1 : decide (i < 0) = false := by simp; omega
      have d2 : decide ((n : Int) ≤ i) = true := by simp; omega
      clear hb
      go_enter Tryd.func12, Tryd.ntmps12
      go_wp2_with fail
      refine CK.out.mono ?_
      rintro e w5 ⟨rfl, u5⟩
      have U5 := Lib.hid u5
      clear u5
      go_wp2
      go_ret2
      exact ⟨_, rfl, OwnR.nil, U5.out⟩
  obtain ⟨j, rfl⟩ : ∃ j : Nat, i = j := ⟨i.toNat, by omega⟩
  obtain ⟨hne, hl6, hfi⟩ := chkE_ok h0
  have e1 : provE ls j = 0 := by unfold provE; rw [if_neg (by omega), if_neg (by omega)]
  have e2 : provS ls j = pathS ls j := by simp [provS, e1]
  rw [e1, e2]
  have hjn : j < n := by omega
  have d1 : decide ((j : Int) < 0) = false := by simp
  have d2 : decide ((n : Int) ≤ (j : Int)) = false := by simp; omega
  have PT := Lib.hid fun W (hu : Up w W) => rpath_calls n p n c j ls W rfl hn hjn (by omega) hfi (h.up hu) hc hcm (htab.up hu)
  obtain ⟨PP, hPP⟩ : ∃ P, P = pathS ls j := ⟨_, rfl⟩
  have HPO := Lib.hid (pathS_ok (l := ls) (i := j) (by omega) (by omega) hfi).1
  rw [← hPP] at PT HPO ⊢
  clear e1 e2 h0 hn h htab hfi hne hl6 hb hPP
  go_enter Tryd.func12, Tryd.ntmps12
  go_wp2_with fail
  refine CK.out.mono ?_
  rintro e w5 ⟨rfl, u5⟩
  have U5 := Lib.hid u5
  clear u5
  go_wp2_with fail
  refine (PT.out w5 U5.out).mono ?_
  rintro e w6 ⟨v, rfl, o6, u6⟩
  obtain ⟨p1, c1, rfl, -, -, -, -⟩ := o6.form (fun x hx => smCells_len (HPO.out x hx).hash)
  have U6 : Hid (Up w w6) := Up.trans U5.out u6
  have O6 := Lib.hid (o6.less U5.out.size)
  clear o6 u6
  go_wp2
  go_ret2
  exact ⟨_, rfl, O6.out, U6.out⟩

end Go.Proofs.YtobcfhninchnkaaDoor
