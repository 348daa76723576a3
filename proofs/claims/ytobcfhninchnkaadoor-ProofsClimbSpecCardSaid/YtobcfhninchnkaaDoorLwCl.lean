/- chapter 57: the law ProofsClimbSpec. -/
import Derived.Test.YtobcfhninchnkaaDoorLwA
import Derived.Test.YtobcfhninchnkaaDoorRgB
namespace Go.Proofs.YtobcfhninchnkaaDoor
open Go Go.RowKit
set_option linter.unusedVariables false
set_option maxRecDepth 100000

set_option maxHeartbeats 4000000 in
theorem lawClimb_skip (root : Sm) (n i : Int) (x y : Sh) (p q : Option Addr) (m c m2 c2 : Nat) (ps qs : List Sm) (w : World) (htab : Tabs w) (h : 40 < m ∨ (m ≤ 40 ∧ 40 < m2)) :
    Calls Tryd.prog 6 #[.agg (smCells root).toArray, .int .i64 n, .int .i64 i, .agg (shCells x), .agg (shCells y), .slice p m c, .slice q m2 c2] w fun e w' => e = .returned (.bool true) ∧ Up w w' := by
  have SN := Lib.hid fun W (hu : Up w W) => sane57_calls W (htab.up hu)
  obtain ⟨A, hA⟩ : ∃ A, A = shCells x := ⟨_, rfl⟩
  obtain ⟨B, hB⟩ : ∃ B, B = shCells y := ⟨_, rfl⟩
  obtain ⟨R, hR⟩ : ∃ R, R = (smCells root).toArray := ⟨_, rfl⟩
  rw [← hA, ← hB, ← hR]
  clear hA hB hR htab
  rcases h with h | ⟨h1, h2⟩
  · have d1 : decide ((40 : Int) < (m : Int)) = true := by simp; omega
    clear h
    go_enter Tryd.func6, Tryd.ntmps6
    go_wp2_with fail
    refine (SN.out _ ((((Up.refl w).alloc _).alloc _).alloc _)).mono ?_
    rintro e w1 ⟨rfl, u1⟩
    have U1 : Hid (Up w w1) := Up.trans ((((Up.refl w).alloc _).alloc _).alloc _) u1
    clear u1
    go_wp2
    go_ret
    exact ⟨rfl, U1.out⟩
  · have d1 : decide ((40 : Int) < (m : Int)) = false := by simp; omega
    have d2 : decide ((40 : Int) < (m2 : Int)) = true := by simp; omega
    clear h1 h2
    go_enter Tryd.func6, Tryd.ntmps6
    go_wp2_with fail
    refine (SN.out _ ((((Up.refl w).alloc _).alloc _).alloc _)).mono ?_
    rintro e w1 ⟨rfl, u1⟩
    have U1 : Hid (Up w w1) := Up.trans ((((Up.refl w).alloc _).alloc _).alloc _) u1
    clear u1
    go_wp2
    go_ret
    exact ⟨rfl, U1.out⟩

set_option maxHeartbeats 16000000 in
theorem lawClimb_go (root : Sm) (n i : Int) (x y : Sh) (p q : Option Addr) (m c m2 c2 : Nat) (ps qs : List Sm) (w : World) (hr : root.hash.length = 32) (hm : m = ps.length) (hm2 : m2 = qs.length) (hl : ∀ s ∈ ps, s.hash.length = 32) (hl2 : ∀ s ∈ qs, s.hash.length = 32) (hrow : RowAt w p 35 smCells ps) (hrow2 : RowAt w q 35 smCells qs) (hc : m ≤ c) (hcm : c ≤ maxLen) (hc2 : m2 ≤ c2) (hcm2 : c2 ≤ maxLen) (htab : Tabs w) (h40 : m ≤ 40) (h41 : m2 ≤ 40) :
    Calls Tryd.prog 6 #[.agg (smCells root).toArray, .int .i64 n, .int .i64 i, .agg (shCells x), .agg (shCells y), .slice p m c, .slice q m2 c2] w fun e w' => e = .returned (.bool true) ∧ Up w w' := by
  have SN := Lib.hid fun W (hu : Up w W) => sane57_calls W (htab.up hu)
  have CP := Lib.hid fun W (hu : Up w W) => climb_calls n i x p m c ps W hm hl (hrow.up hu) hc hcm (htab.up hu)
  have CR := Lib.hid fun W (hu : Up w W) => rclimb_calls n i x p m c ps W hm hl (hrow.up hu) hc hcm (htab.up hu)
  have KP := Lib.hid fun W (hu : Up w W) => pfCheck_calls root n i x p m c ps W hr hm hl (hrow.up hu) hc hcm (htab.up hu)
  have KR := Lib.hid fun W (hu : Up w W) => rcheckS_calls root n i x p m c ps W hr hm hl (hrow.up hu) hc hcm (htab.up hu)
  have hs := climbS_hash n i x ps
  have JP := Lib.hid fun W (hu : Up w W) => pfCheck_calls (climbS n i x ps) n i x p m c ps W hs hm hl (hrow.up hu) hc hcm (htab.up hu)
  have JR := Lib.hid fun W (hu : Up w W) => rcheckS_calls (climbS n i x ps) n i x p m c ps W hs hm hl (hrow.up hu) hc hcm (htab.up hu)
  have GP := Lib.hid fun W (hu : Up w W) => pcoll_calls n i x y p q m c m2 c2 ps qs W hm hm2 hl hl2 (hrow.up hu) (hrow2.up hu) hc hcm hc2 hcm2 (htab.up hu)
  have GR := Lib.hid fun W (hu : Up w W) => rcoll_calls n i x y p q m c m2 c2 ps qs W hm hm2 hl hl2 (hrow.up hu) (hrow2.up hu) hc hcm hc2 hcm2 (htab.up hu)
  obtain ⟨r, hr0⟩ : ∃ r, r = collS n i x y ps qs := ⟨_, rfl⟩
  rw [← hr0] at GP GR
  obtain ⟨c1, hc1⟩ : ∃ b, b = checkB root n i x ps := ⟨_, rfl⟩
  obtain ⟨c3, hc3⟩ : ∃ b, b = checkB (climbS n i x ps) n i x ps := ⟨_, rfl⟩
  rw [← hc1] at KP KR
  rw [← hc3] at JP JR
  obtain ⟨ee, hee⟩ : ∃ ee, ee = climbE n i x ps := ⟨_, rfl⟩
  rw [← hee] at CP CR
  have EQ := fun W => run_neq_sum (climbS n i x ps) (climbS n i x ps) W hs hs
  rw [show (!decide (climbS n i x ps = climbS n i x ps)) = false by simp] at EQ
  have Ds : Hid ((smCells (climbS n i x ps)).toArray.size = 35) := by have := smCells_len hs; show _ = _; simpa using this
  have Dc : Hid ((smCells (climbS n i x ps)).toArray.all (·.oneCell') = true) := smCells_all _
  have Rs : Hid ((smCells root).toArray.size = 35) := by have := smCells_len hr; show _ = _; simpa using this
  have hAs : Hid ((shCells x).size = 5) := rfl
  have hBs : Hid ((shCells y).size = 5) := rfl
  obtain ⟨D, hD⟩ : ∃ D, D = (smCells (climbS n i x ps)).toArray := ⟨_, rfl⟩
  obtain ⟨A, hA⟩ : ∃ A, A = shCells x := ⟨_, rfl⟩
  obtain ⟨B, hB⟩ : ∃ B, B = shCells y := ⟨_, rfl⟩
  obtain ⟨R, hR⟩ : ∃ R, R = (smCells root).toArray := ⟨_, rfl⟩
  rw [← hD] at CP CR JP JR EQ Ds Dc
  rw [← hA] at CP CR KP KR JP JR GP GR hAs ⊢
  rw [← hB] at GP GR hBs ⊢
  rw [← hR] at KP KR Rs ⊢
  have d1 : decide ((40 : Int) < (m : Int)) = false := by simp; omega
  have d2 : decide ((40 : Int) < (m2 : Int)) = false := by simp; omega
  have d3 : (ee != ee) = false := by simp
  have d4 : (c1 == c1) = true := by simp
  have d5 : (c3 == c3) = true := by simp
  clear hr0 hc1 hc3 hee hD hA hB hR hs hr hm hm2 hl hl2 hrow hrow2 htab h40 h41
  go_enter Tryd.func6, Tryd.ntmps6
  go_wp2_with fail
  obtain ⟨W0, hW0⟩ : ∃ W0, W0 = ((w.alloc (.cells R 28 (0, 0))).alloc (.cells A 38 (0, 0))).alloc (.cells B 38 (0, 0)) := ⟨_, rfl⟩
  rw [← hW0]
  have u0 : Up w W0 := by rw [hW0]; exact (((Up.refl w).alloc _).alloc _).alloc _
  have r0 : W0.heap[w.heap.size]? = some (.cells R 28 (0, 0)) := by rw [hW0, heap_old (by simp +arith), heap_old (by simp +arith), heap_new rfl]
  have a0 : W0.heap[w.heap.size + 1]? = some (.cells A 38 (0, 0)) := by rw [hW0, heap_old (by simp +arith), heap_new (by simp)]
  have b0 : W0.heap[w.heap.size + 2]? = some (.cells B 38 (0, 0)) := by rw [hW0, heap_new (by simp)]
  have U0 := Lib.hid u0
  have R0 := Lib.hid r0
  have A0 := Lib.hid a0
  have B0 := Lib.hid b0
  clear u0 r0 a0 b0 hW0
  refine (SN.out W0 U0.out).mono ?_
  rintro e W1 ⟨rfl, u1⟩
  have U1 : Hid (Up w W1) := Up.trans U0.out u1
  have R1 := Lib.hid ((u1.block _ (lt_of_block R0.out)).trans R0.out)
  have A1 := Lib.hid ((u1.block _ (lt_of_block A0.out)).trans A0.out)
  have B1 := Lib.hid ((u1.block _ (lt_of_block B0.out)).trans B0.out)
  clear u1 R0 A0 B0 U0 SN
  go_wp2_with ((with_reducible show wpList _ _ _ (Oper.mk _ (Op.load _ (Operand.tmp 10)) _ _ _ _ :: _) _ _); refine wpList_load_arr rfl 38 (.tmp 10) rfl (w.heap.size + 1) 0 rfl A _ (rangeAt_row A1.out) rfl rfl (by rw [hAs.out]; rfl) ?_)
  refine (CP.out W1 U1.out).mono ?_
  rintro e W2 ⟨rfl, u2⟩
  have U2 : Hid (Up w W2) := Up.trans U1.out u2
  have R2 := Lib.hid ((u2.block _ (lt_of_block R1.out)).trans R1.out)
  have A2 := Lib.hid ((u2.block _ (lt_of_block A1.out)).trans A1.out)
  have B2 := Lib.hid ((u2.block _ (lt_of_block B1.out)).trans B1.out)
  clear u2 R1 A1 B1 U1 CP
  go_wp2_with (first | (refine wpList_allocG rfl 28 35 allocsSum rfl ?_; intro A3 au az ahz; obtain ⟨Z3, hZz, hbz⟩ := ahz; have AU3 := Lib.hid au; have HZ3 := Lib.hid hZz; have HB3 := Lib.hid hbz; clear au az hZz hbz) | (refine wpList_store_row rfl 28 (.tmp 15) (.tmp 41) rfl _ D rfl rfl 28 _ HB3.out (by rw [Ds.out]; rfl) (by rw [HZ3.out, Ds.out]) Dc.out ?_; refine wpList_named ?_; intro W3 hW; (have un := setRow_upN hW AU3.out (Nat.le_refl _)); (have pn := setRow_named hW HB3.out); have P3 := Lib.hid pn; have un3 := Lib.hid un; clear un pn hW) | ((with_reducible show wpList _ _ _ (Oper.mk _ (Op.load _ (Operand.tmp 10)) _ _ _ _ :: _) _ _); (have U3 : Hid (Up w W3) := Up.trans U2.out un3.out); have R3 := Lib.hid ((un3.out.block _ (lt_of_block R2.out)).trans R2.out); have A3 := Lib.hid ((un3.out.block _ (lt_of_block A2.out)).trans A2.out); have B3 := Lib.hid ((un3.out.block _ (lt_of_block B2.out)).trans B2.out); refine wpList_load_arr rfl 38 (.tmp 10) rfl (w.heap.size + 1) 0 rfl A _ (rangeAt_row A3.out) rfl rfl (by rw [hAs.out]; rfl) ?_))
  obtain ⟨b15, hb15⟩ : ∃ b, b = W2.heap.size := ⟨_, rfl⟩
  rw [← hb15] at P3 ⊢
  clear hb15 HB3 AU3 un3 R2 A2 B2
  refine (CR.out W3 U3.out).mono ?_
  rintro e W4 ⟨rfl, u4⟩
  have U4 : Hid (Up w W4) := Up.trans U3.out u4
  have R4 := Lib.hid ((u4.block _ (lt_of_block R3.out)).trans R3.out)
  have A4 := Lib.hid ((u4.block _ (lt_of_block A3.out)).trans A3.out)
  have B4 := Lib.hid ((u4.block _ (lt_of_block B3.out)).trans B3.out)
  have P4 := Lib.hid ((u4.block _ (lt_of_block P3.out)).trans P3.out)
  clear u4 R3 A3 B3 P3 U3 CR
  go_wp2_with (first | (refine wpList_allocG rfl 28 35 allocsSum rfl ?_; intro A5 au az ahz; obtain ⟨Z5, hZz, hbz⟩ := ahz; have AU5 := Lib.hid au; have HZ5 := Lib.hid hZz; have HB5 := Lib.hid hbz; clear au az hZz hbz) | (refine wpList_store_row rfl 28 (.tmp 17) (.tmp 49) rfl _ D rfl rfl 28 _ HB5.out (by rw [Ds.out]; rfl) (by rw [HZ5.out, Ds.out]) Dc.out ?_; refine wpList_named ?_; intro W10 hW; (have un := setRow_upN hW AU5.out (Nat.le_refl _)); (have pn := setRow_named hW HB5.out); have P5 := Lib.hid pn; have un5 := Lib.hid un; clear un pn hW))
  obtain ⟨b17, hb17⟩ : ∃ b, b = W4.heap.size := ⟨_, rfl⟩
  rw [← hb17] at P5 ⊢
  have U10 : Hid (Up w W10) := Up.trans U4.out un5.out
  have R10 := Lib.hid ((un5.out.block _ (lt_of_block R4.out)).trans R4.out)
  have A10 := Lib.hid ((un5.out.block _ (lt_of_block A4.out)).trans A4.out)
  have B10 := Lib.hid ((un5.out.block _ (lt_of_block B4.out)).trans B4.out)
  have P10 := Lib.hid ((un5.out.block _ (lt_of_block P4.out)).trans P4.out)
  have Q10 := Lib.hid P5.out
  clear hb17 HB5 AU5 un5 R4 A4 B4 P4 U4 P5
  haveI := UpW.some_ W10.drew
  have hz := Lib.hid fun (z : UpW W10.drew) => (Up.trans (Up.refl W10).drew z.up : Up W10 z.w)
  refine wp_region_up_k (by kernel_rfl) (by kernel_rfl) ?_
  intro RR HRR
  have HRR' := Lib.hid HRR
  clear HRR
  repeat (first | ((with_reducible show wpQuiet _ _ _ _ (Oper.mk _ (Op.load _ (Operand.tmp 15)) _ _ _ _ :: _) _); refine wpQuiet_load_arr (by rfl) 28 (.tmp 15) rfl b15 0 rfl D _ (fun w' hw' => by (obtain ⟨z, rfl⟩ := hw'; exact rangeAt_row (((hz.out z).block _ (lt_of_block P10.out)).trans P10.out))) rfl rfl (by rw [Ds.out]; rfl) ?_) | ((with_reducible show wpQuiet _ _ _ _ (Oper.mk _ (Op.load _ (Operand.tmp 17)) _ _ _ _ :: _) _); refine wpQuiet_load_arr (by rfl) 28 (.tmp 17) rfl b17 0 rfl D _ (fun w' hw' => by (obtain ⟨z, rfl⟩ := hw'; exact rangeAt_row (((hz.out z).block _ (lt_of_block Q10.out)).trans Q10.out))) rfl rfl (by rw [Ds.out]; rfl) ?_) | ((with_reducible show wpQuiet _ _ _ _ (Oper.mk _ (Op.load _ (Operand.tmp 7)) _ _ _ _ :: _) _); refine wpQuiet_load_arr (by rfl) 28 (.tmp 7) rfl w.heap.size 0 rfl R _ (fun w' hw' => by (obtain ⟨z, rfl⟩ := hw'; exact rangeAt_row (((hz.out z).block _ (lt_of_block R10.out)).trans R10.out))) rfl rfl (by rw [Rs.out]; rfl) ?_) | ((with_reducible show wpQuiet _ _ _ _ (Oper.mk _ (Op.load _ (Operand.tmp 10)) _ _ _ _ :: _) _); refine wpQuiet_load_arr (by rfl) 38 (.tmp 10) rfl (w.heap.size + 1) 0 rfl A _ (fun w' hw' => by (obtain ⟨z, rfl⟩ := hw'; exact rangeAt_row (((hz.out z).block _ (lt_of_block A10.out)).trans A10.out))) rfl rfl (by rw [hAs.out]; rfl) ?_) | ((with_reducible show wpQuiet _ _ _ _ (Oper.mk (some 65) _ _ _ _ _ :: _) _); with_reducible refine wpQuiet_step (fun K hK => ?_); go_simp; apply Exists.intro; refine ⟨fun _ => ?_, hK _ ?_⟩; (go_at_call 15; with_reducible exact Calls.quiet_up (KP.out _ (Up.trans U10.out (hz.out _)))); clear hK K) | ((with_reducible show wpQuiet _ _ _ _ (Oper.mk (some 71) _ _ _ _ _ :: _) _); with_reducible refine wpQuiet_step (fun K hK => ?_); go_simp; apply Exists.intro; refine ⟨fun _ => ?_, hK _ ?_⟩; (go_at_call 18; with_reducible exact Calls.quiet_up (KR.out _ (Up.trans U10.out (hz.out _)))); clear hK K) | ((with_reducible show wpQuiet _ _ _ _ (Oper.mk (some 80) _ _ _ _ _ :: _) _); with_reducible refine wpQuiet_step (fun K hK => ?_); go_simp; apply Exists.intro; refine ⟨fun _ => ?_, hK _ ?_⟩; (go_at_call 15; with_reducible exact Calls.quiet_up (JP.out _ (Up.trans U10.out (hz.out _)))); clear hK K) | ((with_reducible show wpQuiet _ _ _ _ (Oper.mk (some 86) _ _ _ _ _ :: _) _); with_reducible refine wpQuiet_step (fun K hK => ?_); go_simp; apply Exists.intro; refine ⟨fun _ => ?_, hK _ ?_⟩; (go_at_call 18; with_reducible exact Calls.quiet_up (JR.out _ (Up.trans U10.out (hz.out _)))); clear hK K) | (with_reducible refine wpQuiet_step (fun K hK => ?_); go_simp; with_reducible refine hK _ ?_; clear hK K))
  refine wpQuiet_nil ?_
  refine HRR'.out _ ?_
  rintro W11 ⟨z, hz11⟩
  have u11 : Up W10 W11 := by rw [hz11]; exact hz.out z
  have U11 : Hid (Up w W11) := Up.trans U10.out u11
  have A11 := Lib.hid ((u11.block _ (lt_of_block A10.out)).trans A10.out)
  have B11 := Lib.hid ((u11.block _ (lt_of_block B10.out)).trans B10.out)
  clear hz11 u11 HRR' hz EQ KP KR JP JR R10 A10 B10 P10 Q10 U10
  go_wp2_with (first | ((with_reducible show wpList _ _ _ (Oper.mk _ (Op.load _ (Operand.tmp 10)) _ _ _ _ :: _) _ _); refine wpList_load_arr rfl 38 (.tmp 10) rfl (w.heap.size + 1) 0 rfl A _ (rangeAt_row A11.out) rfl rfl (by rw [hAs.out]; rfl) ?_) | ((with_reducible show wpList _ _ _ (Oper.mk _ (Op.load _ (Operand.tmp 11)) _ _ _ _ :: _) _ _); refine wpList_load_arr rfl 38 (.tmp 11) rfl (w.heap.size + 2) 0 rfl B _ (rangeAt_row B11.out) rfl rfl (by rw [hBs.out]; rfl) ?_))
  refine (GP.out W11 U11.out).mono ?_
  rintro e W12 ⟨v1, v2, rfl, o1, o2, u12⟩
  obtain ⟨q1, k1, rfl, -, -, s1⟩ := o1.form
  obtain ⟨q2, k2, rfl, -, -, s2⟩ := o2.form
  have U12 : Hid (Up w W12) := Up.trans U11.out u12
  have A12 := Lib.hid ((u12.block _ (lt_of_block A11.out)).trans A11.out)
  have B12 := Lib.hid ((u12.block _ (lt_of_block B11.out)).trans B11.out)
  have S1 := Lib.hid s1
  have S2 := Lib.hid s2
  clear u12 o1 o2 s1 s2 A11 B11 U11 GP
  go_wp2_with (first | ((with_reducible show wpList _ _ _ (Oper.mk _ (Op.load _ (Operand.tmp 10)) _ _ _ _ :: _) _ _); refine wpList_load_arr rfl 38 (.tmp 10) rfl (w.heap.size + 1) 0 rfl A _ (rangeAt_row A12.out) rfl rfl (by rw [hAs.out]; rfl) ?_) | ((with_reducible show wpList _ _ _ (Oper.mk _ (Op.load _ (Operand.tmp 11)) _ _ _ _ :: _) _ _); refine wpList_load_arr rfl 38 (.tmp 11) rfl (w.heap.size + 2) 0 rfl B _ (rangeAt_row B12.out) rfl rfl (by rw [hBs.out]; rfl) ?_))
  refine (GR.out W12 U12.out).mono ?_
  rintro e W13 ⟨v3, v4, rfl, o3, o4, u13⟩
  obtain ⟨q3, k3, rfl, -, -, s3⟩ := o3.form
  obtain ⟨q4, k4, rfl, -, -, s4⟩ := o4.form
  have U13 : Hid (Up w W13) := Up.trans U12.out u13
  obtain ⟨r1, r2, r3⟩ := r
  simp only at S1 S2 s3 s4 ⊢
  have t1 := run_text_of W13 q1 k1 r1 (S1.out.up u13)
  have t2 := run_text_of W13 q2 k2 r2 (S2.out.up u13)
  have t3 := run_text_of W13 q3 k3 r1 s3
  have t4 := run_text_of W13 q4 k4 r2 s4
  have f1 := eq_bs r1 r1
  have f2 := eq_bs r2 r2
  rw [decide_eq_true rfl] at f1 f2
  have f3 : (r3 == r3) = true := by simp
  clear u13 o3 o4 s3 s4 S1 S2 GR A12 B12 U12
  go_wp2
  go_ret
  exact ⟨rfl, U13.out⟩

theorem lawClimb_calls (root : Sm) (n i : Int) (x y : Sh) (p q : Option Addr) (m c m2 c2 : Nat) (ps qs : List Sm) (w : World) (hr : root.hash.length = 32) (hm : m = ps.length) (hm2 : m2 = qs.length) (hl : ∀ s ∈ ps, s.hash.length = 32) (hl2 : ∀ s ∈ qs, s.hash.length = 32) (hrow : RowAt w p 35 smCells ps) (hrow2 : RowAt w q 35 smCells qs) (hc : m ≤ c) (hcm : c ≤ maxLen) (hc2 : m2 ≤ c2) (hcm2 : c2 ≤ maxLen) (t0 : Tab0 w) (t1 : Tab w) :
    Calls Tryd.prog 6 #[.agg (smCells root).toArray, .int .i64 n, .int .i64 i, .agg (shCells x), .agg (shCells y), .slice p m c, .slice q m2 c2] w fun e w' => e = .returned (.bool true) ∧ Up w w' := by
  by_cases h : 40 < m ∨ (m ≤ 40 ∧ 40 < m2)
  · exact lawClimb_skip root n i x y p q m c m2 c2 ps qs w ⟨t0, t1⟩ h
  · exact lawClimb_go root n i x y p q m c m2 c2 ps qs w hr hm hm2 hl hl2 hrow hrow2 hc hcm hc2 hcm2 ⟨t0, t1⟩ (by omega) (by omega)

end Go.Proofs.YtobcfhninchnkaaDoor
