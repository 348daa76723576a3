/- the reference acequiaref57: Collide. rows of texts that a range over way gathers: the plain part of the program's Collide. the program's Collide. the program's Collide, both climbs right. -/
import Derived.Test.YtobcfhninchnkaaDoorRgA
import Derived.WalkMore
namespace Go.Proofs.YtobcfhninchnkaaDoor
open Go Go.RowKit
set_option linter.unusedVariables false
set_option maxRecDepth 100000

/-- what both sides' Collide need, once both climbs are right -/
theorem both_ok {n i : Int} {x y : Sh} {ps qs : List Sm} (h1 : climbE n i x ps = 0) (h2 : climbE n i y qs = 0) : ∃ N I : Nat, n = N ∧ i = I ∧ 1 ≤ N ∧ N ≤ 600 ∧ I < N ∧ fineB x = true ∧ ps.length = (turnsS N I).length ∧ ps.all rightB = true ∧ fineB y = true ∧ qs.length = (turnsS N I).length ∧ qs.all rightB = true := by
  obtain ⟨N, I, rfl, rfl, a1, a2, a3, a4, a5, a6⟩ := climbE_ok h1
  obtain ⟨N', I', e1, e2, b1, b2, b3, b4, b5, b6⟩ := climbE_ok h2
  obtain rfl : N = N' := by omega
  obtain rfl : I = I' := by omega
  exact ⟨N, I, rfl, rfl, a1, a2, a3, a4, a5, a6, b4, b5, b6⟩
theorem scanS_succ (a b : List (List UInt8)) (k : Nat) (h1 : k < a.length) (h2 : k < b.length) : scanS a b (k + 1) = if a[k] = b[k] then scanS a b k else (a[k], b[k], true) := by
  rw [scanS]; simp [h1, h2]
theorem eq_bs (l k : List UInt8) : ((bsOf l).toList == (bsOf k).toList) = decide (l = k) := by
  rw [ByteArray.toList_eq, ByteArray.toList_eq, bsOf_list, bsOf_list, Bool.eq_iff_iff]; simp

set_option maxHeartbeats 8000000 in
theorem rcoll_calls (n i : Int) (x y : Sh) (p q : Option Addr) (m c m2 c2 : Nat) (ps qs : List Sm) (w : World) (hm : m = ps.length) (hm2 : m2 = qs.length) (hl : ∀ s ∈ ps, s.hash.length = 32) (hl2 : ∀ s ∈ qs, s.hash.length = 32) (hrow : RowAt w p 35 smCells ps) (hrow2 : RowAt w q 35 smCells qs) (hc : m ≤ c) (hcm : c ≤ maxLen) (hc2 : m2 ≤ c2) (hcm2 : c2 ≤ maxLen) (htab : Tabs w) :
    Calls Tryd.prog 20 #[.int .i64 n, .int .i64 i, .agg (shCells x), .agg (shCells y), .slice p m c, .slice q m2 c2] w (RetC w (collS n i x y ps qs)) := by
  have CL := Lib.hid fun W (hu : Up w W) => rclimb_calls n i x p m c ps W hm hl (hrow.up hu) hc hcm (htab.up hu)
  have CM := Lib.hid fun W (hu : Up w W) => rclimb_calls n i y q m2 c2 qs W hm2 hl2 (hrow2.up hu) hc2 hcm2 (htab.up hu)
  have hcs := collS_cases n i x y ps qs
  have h1s := climbS_hash n i x ps
  have h2s := climbS_hash n i y qs
  have GOOD : Hid (climbE n i x ps = 0 → climbE n i y qs = 0 → (∀ W, Calls Tryd.prog 38 #[.int .i64 n, .int .i64 i] W (RetS W (sidesB n.toNat i.toNat))) ∧
      (∀ W bs v, Up w W → OwnR W bs 4 1 bEnc v (sidesB n.toNat i.toNat) → Calls Tryd.prog 44 #[v, .agg (shCells x), .slice p m c] W (RetTx W (txS x (turnsS n.toNat i.toNat).reverse ps))) ∧
      (∀ W bs v, Up w W → OwnR W bs 4 1 bEnc v (sidesB n.toNat i.toNat) → Calls Tryd.prog 44 #[v, .agg (shCells y), .slice q m2 c2] W (RetTx W (txS y (turnsS n.toNat i.toNat).reverse qs))) ∧
      (txS x (turnsS n.toNat i.toNat).reverse ps).length = m + 1 ∧ (txS y (turnsS n.toNat i.toNat).reverse qs).length = m + 1 ∧ m ≤ 1000) := fun e1 e2 => by
    obtain ⟨N, I, rfl, rfl, a1, a2, a3, a4, a5, a6, b4, b5, b6⟩ := both_ok e1 e2
    rw [Int.toNat_natCast, Int.toNat_natCast]
    refine ⟨fun W => rsides_calls N N I W rfl a3 (by omega), fun W bs v hu ho => rtexts_calls N I x p m c ps v bs W hm a5 a2 a4 a6 hl (hrow.up hu) hc hcm (htab.up hu) ho, fun W bs v hu ho => rtexts_calls N I y q m2 c2 qs v bs W hm2 b5 a2 b4 b6 hl2 (hrow2.up hu) hc2 hcm2 (htab.up hu) ho, ?_, ?_, ?_⟩
    · rw [txS_length _ _ _ (by rw [List.length_reverse, a5]), hm]
    · rw [txS_length _ _ _ (by rw [List.length_reverse, b5]), hm, a5, b5]
    · have := turnsS_length N N I rfl; omega
  obtain ⟨r0, hr0⟩ : ∃ r, r = collS n i x y ps qs := ⟨_, rfl⟩
  rw [← hr0] at hcs ⊢
  have hm1 : ps.length + 1 = m + 1 := by omega
  rw [hm1] at hcs
  obtain ⟨ta, hta⟩ : ∃ ta, ta = txS x (turnsS n.toNat i.toNat).reverse ps := ⟨_, rfl⟩
  obtain ⟨tb, htb⟩ : ∃ tb, tb = txS y (turnsS n.toNat i.toNat).reverse qs := ⟨_, rfl⟩
  obtain ⟨sd, hsd⟩ : ∃ sd, sd = sidesB n.toNat i.toNat := ⟨_, rfl⟩
  rw [← hta, ← htb] at hcs
  rw [← hta, ← htb, ← hsd] at GOOD
  obtain ⟨S1, hS1⟩ : ∃ S, S = climbS n i x ps := ⟨_, rfl⟩
  obtain ⟨S2, hS2⟩ : ∃ S, S = climbS n i y qs := ⟨_, rfl⟩
  obtain ⟨e1, he1⟩ : ∃ e, e = climbE n i x ps := ⟨_, rfl⟩
  obtain ⟨e2, he2⟩ : ∃ e, e = climbE n i y qs := ⟨_, rfl⟩
  rw [← he1, ← hS1] at CL
  rw [← he2, ← hS2] at CM
  rw [← he1, ← he2, ← hS1, ← hS2] at hcs
  rw [← he1, ← he2] at GOOD
  rw [← hS1] at h1s
  rw [← hS2] at h2s
  have EQ := fun W => run_neq_sum S1 S2 W h1s h2s
  have hAs : Hid ((shCells x).size = 5) := rfl
  have hBs : Hid ((shCells y).size = 5) := rfl
  have h1z : Hid ((smCells S1).toArray.size = 35) := by have := smCells_len h1s; show _ = _; simpa using this
  have h2z : Hid ((smCells S2).toArray.size = 35) := by have := smCells_len h2s; show _ = _; simpa using this
  have h1c : Hid ((smCells S1).toArray.all (·.oneCell') = true) := smCells_all _
  have h2c : Hid ((smCells S2).toArray.all (·.oneCell') = true) := smCells_all _
  obtain ⟨bb, hbb⟩ : ∃ bb, bb = !decide (S1 = S2) := ⟨_, rfl⟩
  rw [← hbb] at EQ
  obtain ⟨A, hA⟩ : ∃ A, A = shCells x := ⟨_, rfl⟩
  obtain ⟨B, hB⟩ : ∃ B, B = shCells y := ⟨_, rfl⟩
  obtain ⟨D1, hD1⟩ : ∃ D, D = (smCells S1).toArray := ⟨_, rfl⟩
  obtain ⟨D2, hD2⟩ : ∃ D, D = (smCells S2).toArray := ⟨_, rfl⟩
  rw [← hA] at CL hAs GOOD ⊢
  rw [← hB] at CM hBs GOOD ⊢
  rw [← hD1] at CL EQ h1z h1c
  rw [← hD2] at CM EQ h2z h2c
  have hcs2 : (e1 ≠ 0 ∧ r0 = ([], [], false)) ∨ (e1 = 0 ∧ e2 ≠ 0 ∧ r0 = ([], [], false)) ∨ (e1 = 0 ∧ e2 = 0 ∧ bb = true ∧ r0 = ([], [], false)) ∨ (e1 = 0 ∧ e2 = 0 ∧ bb = false ∧ r0 = scanS ta tb (m + 1)) := by
    rcases hcs with h | h | ⟨h1, h2, h3, h4⟩ | ⟨h1, h2, h3, h4⟩
    · exact .inl h
    · exact .inr (.inl h)
    · exact .inr (.inr (.inl ⟨h1, h2, by rw [hbb]; simp [h3], h4⟩))
    · exact .inr (.inr (.inr ⟨h1, h2, by rw [hbb]; simp [h3], h4⟩))
  have HCS := Lib.hid hcs2
  clear hcs hcs2 hA hB hD1 hD2 hbb hS1 hS2 he1 he2 hta htb hsd hr0 h1s h2s hl hl2 hrow hrow2 hm hm2 hm1 htab
  go_enter Tryd.func20, Tryd.ntmps20
  go_wp2_with ((with_reducible show wpList _ _ _ (Oper.mk _ (Op.load _ (Operand.tmp 8)) _ _ _ _ :: _) _ _); refine wpList_named ?_; intro W1 hW1; (have u1 : Up w W1 := by (rw [hW1]; exact ((Up.refl w).alloc _).alloc _)); (have xa : W1.heap[w.heap.size]? = some (.cells A 38 (0, 0)) := by (rw [hW1, heap_old (by simp), heap_new rfl])); (have xb : W1.heap[w.heap.size + 1]? = some (.cells B 38 (0, 0)) := by (rw [hW1]; exact heap_new (by simp))); have U1 := Lib.hid u1; have XA := Lib.hid xa; have XB := Lib.hid xb; clear u1 xa xb hW1; refine wpList_load_arr rfl 38 (.tmp 8) rfl w.heap.size 0 rfl A _ (rangeAt_row XA.out) rfl rfl (by rw [hAs.out]; rfl) ?_)
  refine (CL.out W1 U1.out).mono ?_
  rintro e W2 ⟨rfl, u2⟩
  have U2 : Hid (Up w W2) := Up.trans U1.out u2
  have XA2 := Lib.hid ((u2.block _ (lt_of_block XA.out)).trans XA.out)
  have XB2 := Lib.hid ((u2.block _ (lt_of_block XB.out)).trans XB.out)
  clear u2 XA XB CL
  go_wp2_with (first | (refine wpList_allocG rfl 28 35 allocsSum rfl ?_; intro W3 u3 z3 hz3; obtain ⟨Z3, hZ3, hb3⟩ := hz3; have V3 := Lib.hid u3; have HZ3 := Lib.hid hZ3; have HB3 := Lib.hid hb3; clear u3 z3 hZ3 hb3) | (refine wpList_store_row rfl 28 (.tmp 15) (.tmp 29) rfl _ D1 rfl rfl 28 _ HB3.out (by rw [h1z.out]; rfl) (by rw [HZ3.out, h1z.out]) h1c.out ?_; refine wpList_named ?_; intro W4 hW4; (have u4 : Up W2 W4 := setRow_upN hW4 V3.out (Nat.le_refl _)); (have p4 := setRow_named hW4 HB3.out); have XA4 := Lib.hid ((u4.block _ (lt_of_block XA2.out)).trans XA2.out); have XB4 := Lib.hid ((u4.block _ (lt_of_block XB2.out)).trans XB2.out); have P4 := Lib.hid p4; (have U4 : Hid (Up w W4) := Up.trans U2.out u4); clear u4 p4 hW4) | ((with_reducible show wpList _ _ _ (Oper.mk _ (Op.load _ (Operand.tmp 9)) _ _ _ _ :: _) _ _); refine wpList_load_arr rfl 38 (.tmp 9) rfl (w.heap.size + 1) 0 rfl B _ (rangeAt_row XB4.out) rfl rfl (by rw [hBs.out]; rfl) ?_))
  obtain ⟨b15, hb15⟩ : ∃ b, b = W2.heap.size := ⟨_, rfl⟩
  rw [← hb15] at P4 ⊢
  clear hb15 HB3 V3
  refine (CM.out W4 U4.out).mono ?_
  rintro e W5 ⟨rfl, u5⟩
  have U5 : Hid (Up w W5) := Up.trans U4.out u5
  have XA5 := Lib.hid ((u5.block _ (lt_of_block XA4.out)).trans XA4.out)
  have XB5 := Lib.hid ((u5.block _ (lt_of_block XB4.out)).trans XB4.out)
  have P5 := Lib.hid ((u5.block _ (lt_of_block P4.out)).trans P4.out)
  clear u5 XA4 XB4 XA2 XB2 P4 CM U2 U1
  rcases HCS.out with ⟨h1, rfl⟩ | ⟨rfl, h2, rfl⟩ | ⟨rfl, rfl, rfl, rfl⟩ | ⟨rfl, rfl, rfl, hr⟩
  · have d1 : (e1 != 0) = true := by rw [bne_iff_ne]; exact h1
    clear HCS h1
    clear GOOD
    go_wp2_with (first | (refine wpList_allocG rfl 28 35 allocsSum rfl ?_; intro W6 u6 z6 hz6; obtain ⟨Z6, hZ6, hb6⟩ := hz6; have V6 := Lib.hid u6; have HZ6 := Lib.hid hZ6; have HB6 := Lib.hid hb6; clear u6 z6 hZ6 hb6) | (refine wpList_store_row rfl 28 (.tmp 17) (.tmp 37) rfl _ D2 rfl rfl 28 _ HB6.out (by rw [h2z.out]; rfl) (by rw [HZ6.out, h2z.out]) h2c.out ?_; refine wpList_named ?_; intro W7 hW7; (have u7 : Up W5 W7 := setRow_upN hW7 V6.out (Nat.le_refl _)); (have p7 := setRow_named hW7 HB6.out); have XA7 := Lib.hid ((u7.block _ (lt_of_block XA5.out)).trans XA5.out); have XB7 := Lib.hid ((u7.block _ (lt_of_block XB5.out)).trans XB5.out); have Q7 := Lib.hid ((u7.block _ (lt_of_block P5.out)).trans P5.out); have P7 := Lib.hid p7; (have U7 : Hid (Up w W7) := Up.trans U5.out u7); clear u7 p7 hW7) | ((with_reducible show wpList _ _ _ (Oper.mk _ (Op.load _ (Operand.tmp 15)) _ _ _ _ :: _) _ _); refine wpList_load_arrG (by rfl) 28 (.tmp 15) rfl b15 0 rfl D1 _ (rangeAt_row Q7.out) rfl rfl (by rw [h1z.out]; rfl) ?_) | ((with_reducible show wpList _ _ _ (Oper.mk _ (Op.load _ (Operand.tmp 17)) _ _ _ _ :: _) _ _); refine wpList_load_arrG (by rfl) 28 (.tmp 17) rfl _ 0 rfl D2 _ (rangeAt_row P7.out) rfl rfl (by rw [h2z.out]; rfl) ?_))
    go_ret3
    exact ⟨_, _, rfl, Own.nil _ _, Own.nil _ _, U7.out⟩
  · have d2 : (e2 != 0) = true := by rw [bne_iff_ne]; exact h2
    clear HCS h2
    clear GOOD
    go_wp2_with (first | (refine wpList_allocG rfl 28 35 allocsSum rfl ?_; intro W6 u6 z6 hz6; obtain ⟨Z6, hZ6, hb6⟩ := hz6; have V6 := Lib.hid u6; have HZ6 := Lib.hid hZ6; have HB6 := Lib.hid hb6; clear u6 z6 hZ6 hb6) | (refine wpList_store_row rfl 28 (.tmp 17) (.tmp 37) rfl _ D2 rfl rfl 28 _ HB6.out (by rw [h2z.out]; rfl) (by rw [HZ6.out, h2z.out]) h2c.out ?_; refine wpList_named ?_; intro W7 hW7; (have u7 : Up W5 W7 := setRow_upN hW7 V6.out (Nat.le_refl _)); (have p7 := setRow_named hW7 HB6.out); have XA7 := Lib.hid ((u7.block _ (lt_of_block XA5.out)).trans XA5.out); have XB7 := Lib.hid ((u7.block _ (lt_of_block XB5.out)).trans XB5.out); have Q7 := Lib.hid ((u7.block _ (lt_of_block P5.out)).trans P5.out); have P7 := Lib.hid p7; (have U7 : Hid (Up w W7) := Up.trans U5.out u7); clear u7 p7 hW7) | ((with_reducible show wpList _ _ _ (Oper.mk _ (Op.load _ (Operand.tmp 15)) _ _ _ _ :: _) _ _); refine wpList_load_arrG (by rfl) 28 (.tmp 15) rfl b15 0 rfl D1 _ (rangeAt_row Q7.out) rfl rfl (by rw [h1z.out]; rfl) ?_) | ((with_reducible show wpList _ _ _ (Oper.mk _ (Op.load _ (Operand.tmp 17)) _ _ _ _ :: _) _ _); refine wpList_load_arrG (by rfl) 28 (.tmp 17) rfl _ 0 rfl D2 _ (rangeAt_row P7.out) rfl rfl (by rw [h2z.out]; rfl) ?_))
    go_ret3
    exact ⟨_, _, rfl, Own.nil _ _, Own.nil _ _, U7.out⟩
  · clear HCS
    clear GOOD
    go_wp2_with (first | (refine wpList_allocG rfl 28 35 allocsSum rfl ?_; intro W6 u6 z6 hz6; obtain ⟨Z6, hZ6, hb6⟩ := hz6; have V6 := Lib.hid u6; have HZ6 := Lib.hid hZ6; have HB6 := Lib.hid hb6; clear u6 z6 hZ6 hb6) | (refine wpList_store_row rfl 28 (.tmp 17) (.tmp 37) rfl _ D2 rfl rfl 28 _ HB6.out (by rw [h2z.out]; rfl) (by rw [HZ6.out, h2z.out]) h2c.out ?_; refine wpList_named ?_; intro W7 hW7; (have u7 : Up W5 W7 := setRow_upN hW7 V6.out (Nat.le_refl _)); (have p7 := setRow_named hW7 HB6.out); have XA7 := Lib.hid ((u7.block _ (lt_of_block XA5.out)).trans XA5.out); have XB7 := Lib.hid ((u7.block _ (lt_of_block XB5.out)).trans XB5.out); have Q7 := Lib.hid ((u7.block _ (lt_of_block P5.out)).trans P5.out); have P7 := Lib.hid p7; (have U7 : Hid (Up w W7) := Up.trans U5.out u7); clear u7 p7 hW7) | ((with_reducible show wpList _ _ _ (Oper.mk _ (Op.load _ (Operand.tmp 15)) _ _ _ _ :: _) _ _); refine wpList_load_arrG (by rfl) 28 (.tmp 15) rfl b15 0 rfl D1 _ (rangeAt_row Q7.out) rfl rfl (by rw [h1z.out]; rfl) ?_) | ((with_reducible show wpList _ _ _ (Oper.mk _ (Op.load _ (Operand.tmp 17)) _ _ _ _ :: _) _ _); refine wpList_load_arrG (by rfl) 28 (.tmp 17) rfl _ 0 rfl D2 _ (rangeAt_row P7.out) rfl rfl (by rw [h2z.out]; rfl) ?_))
    go_ret3
    exact ⟨_, _, rfl, Own.nil _ _, Own.nil _ _, U7.out⟩
  obtain ⟨sc, tac, tbc, hla, hlb, hm1000⟩ := GOOD.out rfl rfl
  obtain ⟨la, hLA⟩ : ∃ la, la = m + 1 := ⟨_, rfl⟩
  rw [← hLA] at hla hlb hr
  have hla1 : 1 ≤ la := by omega
  have hla2 : la ≤ 1001 := by omega
  have HR := Lib.hid hr
  clear hLA
  have SC := Lib.hid sc
  have TAC := Lib.hid tac
  have TBC := Lib.hid tbc
  have HLA := Lib.hid hla
  have HLB := Lib.hid hlb
  clear hr HCS GOOD sc tac tbc hla hlb
  go_wp2_with (first | (refine wpList_allocG rfl 28 35 allocsSum rfl ?_; intro W6 u6 z6 hz6; obtain ⟨Z6, hZ6, hb6⟩ := hz6; have V6 := Lib.hid u6; have HZ6 := Lib.hid hZ6; have HB6 := Lib.hid hb6; clear u6 z6 hZ6 hb6) | (refine wpList_store_row rfl 28 (.tmp 17) (.tmp 37) rfl _ D2 rfl rfl 28 _ HB6.out (by rw [h2z.out]; rfl) (by rw [HZ6.out, h2z.out]) h2c.out ?_; refine wpList_named ?_; intro W7 hW7; (have u7 : Up W5 W7 := setRow_upN hW7 V6.out (Nat.le_refl _)); (have p7 := setRow_named hW7 HB6.out); have XA7 := Lib.hid ((u7.block _ (lt_of_block XA5.out)).trans XA5.out); have XB7 := Lib.hid ((u7.block _ (lt_of_block XB5.out)).trans XB5.out); have Q7 := Lib.hid ((u7.block _ (lt_of_block P5.out)).trans P5.out); have P7 := Lib.hid p7; (have U7 : Hid (Up w W7) := Up.trans U5.out u7); clear u7 p7 hW7) | ((with_reducible show wpList _ _ _ (Oper.mk _ (Op.load _ (Operand.tmp 15)) _ _ _ _ :: _) _ _); refine wpList_load_arrG (by rfl) 28 (.tmp 15) rfl b15 0 rfl D1 _ (rangeAt_row Q7.out) rfl rfl (by rw [h1z.out]; rfl) ?_) | ((with_reducible show wpList _ _ _ (Oper.mk _ (Op.load _ (Operand.tmp 17)) _ _ _ _ :: _) _ _); refine wpList_load_arrG (by rfl) 28 (.tmp 17) rfl _ 0 rfl D2 _ (rangeAt_row P7.out) rfl rfl (by rw [h2z.out]; rfl) ?_))
  clear Q7 P7 HB6 V6 P5 EQ U4
  refine (SC.out W7).mono ?_
  rintro e W8 ⟨vs, rfl, o8, u8⟩
  have U8 : Hid (Up w W8) := Up.trans U7.out u8
  have O8 := Lib.hid o8
  have XA8 := Lib.hid ((u8.block _ (lt_of_block XA7.out)).trans XA7.out)
  have XB8 := Lib.hid ((u8.block _ (lt_of_block XB7.out)).trans XB7.out)
  clear u8 o8 XA7 XB7 XA5 XB5 U5
  go_wp2_with ((with_reducible show wpList _ _ _ (Oper.mk _ (Op.load _ (Operand.tmp 8)) _ _ _ _ :: _) _ _); refine wpList_load_arr rfl 38 (.tmp 8) rfl w.heap.size 0 rfl A _ (rangeAt_row XA8.out) rfl rfl (by rw [hAs.out]; rfl) ?_)
  refine (TAC.out W8 _ _ U8.out O8.out).mono ?_
  rintro e W9 ⟨va, ua, rfl, oa, xa, u9⟩
  have U9 : Hid (Up w W9) := Up.trans U8.out u9
  have O9 := Lib.hid (O8.out.up u9)
  have XB9 := Lib.hid ((u9.block _ (lt_of_block XB8.out)).trans XB8.out)
  have hua : ua.length = la := by rw [xa.1, HLA.out]
  obtain ⟨ga, ca, cua, rfl, -, -, -, -, -, -⟩ := oa.form2 (by rintro rfl; simp at hua; omega)
  have OA := Lib.hid oa
  have TA := Lib.hid xa
  have HUA := Lib.hid hua
  rw [hua] at OA ⊢
  clear u9 O8 XA8 XB8 oa xa hua
  go_wp2_with ((with_reducible show wpList _ _ _ (Oper.mk _ (Op.load _ (Operand.tmp 9)) _ _ _ _ :: _) _ _); refine wpList_load_arr rfl 38 (.tmp 9) rfl (w.heap.size + 1) 0 rfl B _ (rangeAt_row XB9.out) rfl rfl (by rw [hBs.out]; rfl) ?_)
  refine (TBC.out W9 _ _ U9.out O9.out).mono ?_
  rintro e W10 ⟨vb, ub, rfl, ob, xb, u10⟩
  have U10 : Hid (Up w W10) := Up.trans U9.out u10
  have hub : ub.length = la := by rw [xb.1, HLB.out]
  obtain ⟨gb, cb, cub, rfl, -, -, -, -, -, -⟩ := ob.form2 (by rintro rfl; simp at hub; omega)
  have OB := Lib.hid ob
  have TB := Lib.hid xb
  have OA2 := Lib.hid (OA.out.up u10)
  have TA2 := Lib.hid (TA.out.up u10)
  have HUB := Lib.hid hub
  rw [hub] at OB ⊢
  clear u10 ob xb hub O9 XB9 OA TA
  go_wp2_with fail
  go_loopw [22] (fun v22 wq => ∃ k : Nat, k ≤ la ∧ v22 = .int .i64 ((k : Int) - 1) ∧ Hid (scanS ta tb (la) = scanS ta tb k) ∧ Hid (Up W10 wq)) (fun v22 _ => (intOf v22 + 1).toNat)
  case atStart => exact ⟨la, by omega, by go_num, rfl, Up.refl _⟩
  case round =>
    obtain ⟨k, hk, rfl, HK, HU⟩ := hrel
    have UW : Hid (Up w wr) := Up.trans U10.out HU.out
    rcases k with _ | r
    · have hr := HR.out
      rw [HK.out, scanS] at hr
      subst hr
      rw [show (((0 : Nat) : Int) - 1) = -1 from rfl]
      go_wp2
      go_ret3
      exact ⟨_, _, rfl, Own.nil _ _, Own.nil _ _, UW.out⟩
    rw [show (((r + 1 : Nat) : Int) - 1) = (r : Int) from by omega]
    have hrl : r < la := by omega
    have hra : r < ua.length := by have := HUA.out; omega
    have hrb : r < ub.length := by have := HUB.out; omega
    have hta : r < ta.length := by have := HLA.out; omega
    have htb : r < tb.length := by have := HLB.out; omega
    have oa := TA2.out.2 r hra hta
    have ob := TB.out.2 r hrb htb
    obtain ⟨q1, c1, hf1, m1, m1', s1⟩ := oa.form
    obtain ⟨q2, c2', hf2, m2', m2'', s2⟩ := ob.form
    have g1 := OA2.out.at' (fun y _ => vEnc_len y) r hra 0 _ rfl
    have g2 := OB.out.at' (fun y _ => vEnc_len y) r hrb 0 _ rfl
    rw [hf1] at g1 oa
    rw [hf2] at g2 ob
    have hsc := scanS_succ ta tb r hta htb
    obtain ⟨t1, ht1⟩ : ∃ t, t = ta[r] := ⟨_, rfl⟩
    obtain ⟨t2, ht2⟩ : ∃ t, t = tb[r] := ⟨_, rfl⟩
    rw [← ht1] at g1 oa s1 hsc
    rw [← ht2] at g2 ob s2 hsc
    have hz := Lib.hid fun (z : UpW wr.drew) => (Up.trans HU.out (Up.trans (Up.refl wr).drew z.up) : Up W10 z.w)
    have k1 : ∀ z : UpW wr.drew, z.w.cell? ⟨ga, r, none⟩ = some (.slice q1 t1.length c1) := fun z => by simpa using cell_up g1 (hz.out z)
    have k2 : ∀ z : UpW wr.drew, z.w.cell? ⟨gb, r, none⟩ = some (.slice q2 t2.length c2') := fun z => by simpa using cell_up g2 (hz.out z)
    have v1 : ∀ z : UpW wr.drew, (convert 45 9 (.slice q1 t1.length c1)).run Tryd.prog z.w = .ok (.string (bsOf t1)) z.w := fun z => run_text_of z.w q1 c1 t1 (s1.up (hz.out z))
    have v2 : ∀ z : UpW wr.drew, (convert 45 9 (.slice q2 t2.length c2')).run Tryd.prog z.w = .ok (.string (bsOf t2)) z.w := fun z => run_text_of z.w q2 c2' t2 (s2.up (hz.out z))
    have hne := eq_bs t1 t2
    have OO1 := Lib.hid oa
    have OO2 := Lib.hid ob
    have HSC := Lib.hid hsc
    have d0 : decide ((0 : Int) ≤ (r : Int)) = true := by simp
    haveI := UpW.some_ wr.drew
    clear hsc oa ob s1 s2 g1 g2 ht1 ht2 hf1 hf2 m1 m1' m2' m2'' hra hrb hta htb
    by_cases htt : t1 = t2
    case pos =>
      have HK2 : Hid (scanS ta tb (la) = scanS ta tb r) := by show _ = _; rw [HK.out, HSC.out, if_pos htt]
      rw [decide_eq_true htt] at hne
      clear HSC HK htt
      go_wp2_with fail
      refine wp_region_up (by kernel_rfl) (by kernel_rfl) ?_
      repeat (refine wpQuiet_step (fun K hK => ?_); go_simp; refine hK _ ?_; clear hK K)
      refine wpQuiet_nil ?_
      rintro w4 ⟨z, hz4⟩
      have U4 : Hid (Up W10 w4) := by show Up _ _; rw [hz4]; exact hz.out z
      clear hz4 hz k1 k2 v1 v2 hne
      go_wp2
      exact ⟨⟨r, by omega, by go_num, HK2, U4⟩, by simp [intOf]⟩
    have hr := HR.out
    rw [HK.out, HSC.out, if_neg htt] at hr
    subst hr
    rw [decide_eq_false htt] at hne
    clear HSC HK htt HR
    go_wp2_with fail
    refine wp_region_up (by kernel_rfl) (by kernel_rfl) ?_
    repeat (refine wpQuiet_step (fun K hK => ?_); go_simp; refine hK _ ?_; clear hK K)
    refine wpQuiet_nil ?_
    rintro w4 ⟨z, hz4⟩
    have U4 : Hid (Up W10 w4) := by show Up _ _; rw [hz4]; exact hz.out z
    have kk1 := k1 z
    have kk2 := k2 z
    rw [← hz4] at kk1 kk2
    clear hz4 hz k1 k2 v1 v2 hne
    have hz := Lib.hid fun (z : UpW w4.drew) => (Up.trans (Up.refl w4).drew z.up : Up w4 z.w)
    have k1 : ∀ z : UpW w4.drew, z.w.cell? ⟨ga, r, none⟩ = some (.slice q1 t1.length c1) := fun z => cell_up kk1 (hz.out z)
    have k2 : ∀ z : UpW w4.drew, z.w.cell? ⟨gb, r, none⟩ = some (.slice q2 t2.length c2') := fun z => cell_up kk2 (hz.out z)
    haveI := UpW.some_ w4.drew
    clear kk1 kk2
    go_wp2_with fail
    refine wp_region_up (by kernel_rfl) (by kernel_rfl) ?_
    repeat (refine wpQuiet_step (fun K hK => ?_); go_simp; refine hK _ ?_; clear hK K)
    refine wpQuiet_nil ?_
    rintro w5 ⟨z, hz5⟩
    have u5 : Up W10 w5 := by rw [hz5]; exact Up.trans U4.out (hz.out z)
    clear hz5 hz k1 k2
    go_wp2
    go_ret3
    exact ⟨_, _, rfl, OO1.out.up u5, OO2.out.up u5, Up.trans U10.out u5⟩

end Go.Proofs.YtobcfhninchnkaaDoor

namespace Go.Proofs.YtobcfhninchnkaaDoor
open Go Go.RowKit Go.Shelf
attribute [local go_sem] Oper.semAt_some wide_depth
set_option linter.unusedVariables false
set_option maxRecDepth 100000

theorem postM_mark2 {F : Fence} {n : Nat} {P : Program} {fn : Func} {R : Ending → World → Prop} {a : Act} {w : World} {v : Value} {r2 r1 : Nat} (hd : a.defers = [{ target := .collected r2, args := #[] }, { target := .collected r1, args := #[] }]) (hw2 : w.heap[r2]? = some (.deferred (some []))) (hw1 : (w.putObj r2 (.deferred none)).heap[r1]? = some (.deferred (some [])))
    (h : (results fn a.tmps).run P ((w.putObj r2 (.deferred none)).putObj r1 (.deferred none)) = .ok v ((w.putObj r2 (.deferred none)).putObj r1 (.deferred none))) (hR : R (.returned v) ((w.putObj r2 (.deferred none)).putObj r1 (.deferred none))) : bodyPostM F n P fn R .ret a w := by
  show LeavesInM F n P fn a.tmps R a.defers .returning w
  rw [hd]
  exact ⟨by simp, .inl ⟨r2, _, rfl, run_takeDeferred hw2, by simp, .inl ⟨r1, _, rfl, run_takeDeferred hw1, v, h, hR⟩⟩⟩

theorem wpListIn_appR {F : Fence} {nn : Nat} {P : Program} {ops : Array Oper} {rest : List Oper} {Q : Exit → Act → World → Prop} {a : Act} {w : World} {α : Type} {enc : α → List Value} {T E : TypeId} {k bytes : Nat} (hF : WideF F) {o : Oper} (hgd : o.guard = none) (s x : Operand) (hT : EltT P T E k bytes) (hby : bytes ≤ 10000)
    (ho : o.op = .call { callee := .builtin .append, args := #[s, x], argTypes := #[T, T] }) (hty : o.type = T) (base : Nat) (v : Value) (l : List α) (p : Option Addr) (m c : Nat) (l2 : List α) (hs : a.eval s = v) (hx : a.eval x = .slice p m c) (hm : m = l2.length)
    (hk : ∀ x ∈ l ++ l2, (enc x).length = k) (hone : ∀ x ∈ l2, ∀ u ∈ enc x, u.oneCell' = true) (hown : OwnR w base E k enc v l) (hb : RowAt w p k enc l2)
    (hl : l.length + l2.length ≤ 1000000) (hbase : base ≤ w.heap.size) (h : ∀ q m' d w', OwnR w' base E k enc (.slice q m' d) (l ++ l2) → Below base w w' → Grow w w' v (.slice q m' d) → wpListIn F nn P ops Q rest (a.put o.dst (.slice q m' d)) w') :
    wpListIn F nn P ops Q (o :: rest) a w :=
  wpListIn_of_wp hF hgd (fun c e => by rw [ho] at e; cases e) fun K hK => wp_appR s x hT hby ho hty base v l p m c l2 hs hx hm hk hone hown hb hl hbase fun q m' d w' h1 h2 h3 => hK _ _ (h q m' d w' h1 h2 h3)

theorem wpListIn_load_arrG {F : Fence} {nn : Nat} {P : Program} {ops : Array Oper} {rest : List Oper} {Q : Exit → Act → World → Prop} {a : Act} {w : World} (hF : WideF F) {o : Oper} (hw : Region.wanted o (yielded ops a.tmps) = true) (ty : TypeId) (x : Operand) (ho : o.op = .load ty x)
    (b off : Nat) (hx : a.eval x = .pointer (some ⟨b, off, none⟩)) (D : Array Value) (d : TypeDesc) (hc : w.rangeAt b off D.toList)
    (hu : P.underlying ty = some d) (hd : d.isRow = true) (hi : (P.info? ty).map (·.size) = some D.size)
    (h : wpListIn F nn P ops Q rest (a.put o.dst (.agg D)) w) : wpListIn F nn P ops Q (o :: rest) a w :=
  wpListIn_step fun K hK => by
    rw [if_pos hw]
    exact Oper.wpIn_of_wp hF (fun c e => by rw [ho] at e; cases e) (wp_load_mid ty x ho b off hx D.toList d hc hu hd (by rw [hi, Array.length_toList]) (by rw [Array.toArray_toList]; exact hK _ _ h))

theorem Own.put {W : World} {base : Nat} {v : Value} {l : List UInt8} {h : Nat} {d : Option (List Deferred)} {o : Obj} (ho : Own W base v l) (hd : W.heap[h]? = some (.deferred d)) : Own (W.putObj h o) base v l :=
  ho.kept fun g hg => World.putObj_heap_other (by
    rintro rfl
    obtain ⟨c, hc⟩ := ho.isB _ hg
    rw [hd] at hc
    cases hc)

/-- the temporaries under a name -/
theorem wpIn_tmps {c : Code} {F : Fence} {nn : Nat} {P : Program} {Q : Exit → Act → World → Prop} {T0 : Array Value} {D : List Deferred} {w : World} (h : ∀ T, T = T0 → c.wpIn F nn P Q { tmps := T, defers := D } w) : c.wpIn F nn P Q { tmps := T0, defers := D } w := h _ rfl

theorem wpIn_scope {n : Nat} {P : Program} {c : Code} {Q : Exit → Act → World → Prop} {a : Act} {w : World} (h : c.wpIn Fence.wide n P (Exit.noGoto Q) a w) : (Code.scope c).wpIn Fence.wide n P Q a w := wpIn_wide.2 (wp_scope_straight (wpIn_wide.1 h))

/-- the value's own block is none of the iterator's, nor of the loop's own two -/
def Free (O : Nat → Prop) (h : Nat) (v : Value) : Prop := ∀ g, v.ownBlock = some g → ¬ O g ∧ g ≠ h ∧ g ≠ h + 1
theorem TX.keptF {W W' : World} {vs : List Value} {ts : List (List UInt8)} (h : TX W vs ts) (hk : ∀ u ∈ vs, ∀ g, u.ownBlock = some g → W'.heap[g]? = W.heap[g]?) : TX W' vs ts :=
  ⟨h.1, fun j h1 h2 => (h.2 j h1 h2).kept fun g hg => hk _ (List.getElem_mem h1) g hg⟩
theorem TX.mem {W : World} {vs : List Value} {ts : List (List UInt8)} (h : TX W vs ts) {u : Value} (hu : u ∈ vs) : ∃ t, Own W 0 u t := by
  obtain ⟨j, hj, rfl⟩ := List.mem_iff_getElem.1 hu
  exact ⟨_, h.2 j hj (by rw [← h.1]; exact hj)⟩
theorem box_type : 74 ≠ 5 := by decide
theorem box_txt : 74 ≠ 45 := by decide

theorem Free.none {O : Nat → Prop} {h n c : Nat} : Free O h (.slice none n c) := fun g hg => by cases hg

/-- what is gathered when pre has been handed out; wB: the world ahead of the range; b: the variable's block -/
structure Gath (wB : World) (b : Nat) (O : Nat → Prop) (pre : List (List UInt8 × Sm)) (W : World) : Prop where
  ex : ∃ p n c us, W.heap[b]? = some (.cells #[.slice p n c] 74 (0, 0)) ∧ OwnR W wB.heap.size 45 1 vEnc (.slice p n c) us ∧ Free O wB.heap.size (.slice p n c) ∧ TX W us (pre.map (·.1)) ∧ ∀ u ∈ us, Free O wB.heap.size u
  keep : Chg (· = b) wB W

theorem Gath.zero {wB : World} {b : Nat} {O : Nat → Prop} (hb : wB.heap[b]? = some (.cells #[.slice none 0 0] 74 (0, 0))) : Gath wB b O [] wB :=
  ⟨⟨none, 0, 0, [], hb, OwnR.nil, Free.none, TX.nil _, fun u h => by cases h⟩, Chg.refl _ _⟩

theorem Gath.chg {wB A B : World} {b : Nat} {O O' : Nat → Prop} {pre : List (List UInt8 × Sm)} (h : Gath wB b O pre A) (hb : b < wB.heap.size) (hO : ∀ k, O k → wB.heap.size + 2 ≤ k) (hg : ∀ k, O' k → O k ∨ A.heap.size ≤ k) (hc : Chg (fun k => False ∨ O k ∨ k = wB.heap.size ∨ k = wB.heap.size + 1) A B) : Gath wB b O' pre B := by
  obtain ⟨⟨p, n, c, us, h1, h2, h3, h4, h5⟩, h6⟩ := h
  have hlt := lt_of_block h1
  have fr : ∀ u : Value, Free O wB.heap.size u → (∀ g, u.ownBlock = some g → g < A.heap.size) → Free O' wB.heap.size u := fun u hu hl g hu2 => ⟨fun h => (hg g h).elim (hu g hu2).1 (fun h => by have := hl g hu2; omega), (hu g hu2).2⟩
  have ns : ∀ (u : Value) g, Free O wB.heap.size u → u.ownBlock = some g → ¬ (False ∨ O g ∨ g = wB.heap.size ∨ g = wB.heap.size + 1) := fun u g hu hg => by
    have := hu g hg
    rintro (h | h | h | h)
    · exact h
    · exact this.1 h
    · exact this.2.1 h
    · exact this.2.2 h
  have nb : ∀ k, k < wB.heap.size → ¬ (False ∨ O k ∨ k = wB.heap.size ∨ k = wB.heap.size + 1) := fun k hk => by
    rintro (h | h | h | h)
    · exact h
    · have := hO k h; omega
    · omega
    · omega
  refine ⟨⟨p, n, c, us, (hc.block b hlt (nb b hb)).trans h1, h2.kept fun g hg => hc.block g (h2.lt g hg) (ns _ g h3 hg), fr _ h3 (fun g hg => h2.lt g hg), h4.keptF fun u hu g hg => ?_, fun u hu => fr u (h5 u hu) fun g hg => ?_⟩, ⟨hc.os.trans h6.os, hc.tape.trans h6.tape, hc.output.trans h6.output, Nat.le_trans h6.size hc.size, fun k hk hn => (hc.block k (Nat.lt_of_lt_of_le hk h6.size) (nb k hk)).trans (h6.block k hk hn)⟩⟩
  · obtain ⟨t, ht⟩ := h4.mem hu
    exact hc.block g (ht.isB g hg).lt (ns u g (h5 u hu) hg)
  · obtain ⟨t, ht⟩ := h4.mem hu
    exact (ht.isB g hg).lt

theorem Gath.push {wB W W1 w5 : World} {b : Nat} {O : Nat → Prop} {pre : List (List UInt8 × Sm)} {y : List UInt8 × Sm} {p q : Option Addr} {n c m d : Nat} {us : List Value} {ve : Value} (hb : b < wB.heap.size) (hO : ∀ k, O k → wB.heap.size + 2 ≤ k) (hlt : wB.heap.size + 1 < W.heap.size) (hOW : ∀ k, O k → k < W.heap.size)
    (h1 : W.heap[b]? = some (.cells #[.slice p n c] 74 (0, 0))) (h2 : OwnR W wB.heap.size 45 1 vEnc (.slice p n c) us) (h3 : Free O wB.heap.size (.slice p n c)) (h4 : TX W us (pre.map (·.1))) (h5 : ∀ u ∈ us, Free O wB.heap.size u) (h6 : Chg (· = b) wB W)
    (hve : Own W 0 ve y.1) (hfv : Free O wB.heap.size ve) (hu : Up W W1) (o5 : OwnR w5 wB.heap.size 45 1 vEnc (.slice q m d) (us ++ [ve])) (g5 : Grow W1 w5 (.slice p n c) (.slice q m d)) :
    (∀ K : Nat → Prop, (∀ k, K k → k < wB.heap.size ∧ k ≠ b) → Chg (fun k => ¬ K k ∧ ¬ O k ∧ k ≠ wB.heap.size ∧ k ≠ wB.heap.size + 1) W (w5.setCell ⟨b, 0, none⟩ (.slice q m d))) ∧ Gath wB b O (pre ++ [y]) (w5.setCell ⟨b, 0, none⟩ (.slice q m d)) ∧ w5.heap[b]? = some (.cells #[.slice p n c] 74 (0, 0)) := by
  have hbW := lt_of_block h1
  have hs1 := hu.size
  have hs5 := g5.grown.size
  have hcb : w5.heap[b]? = some (.cells #[.slice p n c] 74 (0, 0)) :=
    (g5.block (by omega) (fun e => by have := h2.block b e; omega)).trans ((hu.block b hbW).trans h1)
  have blk : ∀ k, k < W.heap.size → (Value.slice p n c).ownBlock ≠ some k → k ≠ b → (w5.setCell ⟨b, 0, none⟩ (.slice q m d)).heap[k]? = W.heap[k]? := fun k hk hn hkb =>
    (Below.heap_setCell _ _ _ _ hkb).trans ((g5.block (by omega) hn).trans (hu.block k hk))
  have os : (w5.setCell ⟨b, 0, none⟩ (.slice q m d)).os = W.os := (g5.grown.os).trans hu.os
  have tp : (w5.setCell ⟨b, 0, none⟩ (.slice q m d)).tape = W.tape := (g5.grown.tape).trans hu.tape
  have ou : (w5.setCell ⟨b, 0, none⟩ (.slice q m d)).output = W.output := (g5.grown.output).trans hu.output
  have sz : W.heap.size ≤ (w5.setCell ⟨b, 0, none⟩ (.slice q m d)).heap.size := by simp [World.setCell]; omega
  refine ⟨fun K hK => ⟨os, tp, ou, sz, fun k hk hn => ?_⟩, ⟨⟨q, m, d, us ++ [ve], one_setCell hcb, o5.kept fun g hg => Below.heap_setCell _ _ _ _ (fun e => ?_), fun g hg => ?_, ?_, fun u hm => ?_⟩, ?_⟩, hcb⟩
  · refine blk k hk (fun e => hn ?_) (fun e => hn ?_)
    · have := h3 k e
      exact ⟨fun hk' => by have := hK k hk'; have := h2.block k e; omega, this.1, this.2.1, this.2.2⟩
    · subst e
      exact ⟨fun hk' => (hK k hk').2 rfl, fun ho => by have := hO k ho; omega, by omega, by omega⟩
  · have := o5.block g hg
    have e' : g = b := e
    omega
  · rcases g5.own g hg with h | h
    · exact h3 g h
    · exact ⟨fun ho => by have := hOW g ho; omega, by omega, by omega⟩
  · have t5 : TX w5 (us ++ [ve]) ((pre ++ [y]).map (·.1)) := by
      rw [List.map_append]
      exact ((h4.up hu).snoc (hve.up hu)).grow (h2.up hu) g5
    exact t5.kept fun g ⟨cu, hg⟩ => Below.heap_setCell _ _ _ _ (fun e => by
      have e' : g = b := e
      subst e'
      rw [hcb] at hg
      injection hg with hg
      injection hg with _ h
      exact box_type h)
  · rcases List.mem_append.1 hm with h | h
    · exact h5 u h
    · rw [List.mem_singleton.1 h]; exact hfv
  · refine ⟨os.trans h6.os, tp.trans h6.tape, ou.trans h6.output, Nat.le_trans h6.size sz, fun k hk hn => ?_⟩
    exact (blk k (Nat.lt_of_lt_of_le hk h6.size) (fun e => by have := h2.block k e; omega) hn).trans (h6.block k hk hn)

end Go.Proofs.YtobcfhninchnkaaDoor

namespace Go.Proofs.YtobcfhninchnkaaDoor
open Go Go.RowKit Go.Shelf
attribute [local go_sem] Oper.semAt_some wide_depth
set_option linter.unusedVariables false
set_option maxRecDepth 100000

set_option maxHeartbeats 8000000 in
theorem pcoll_bad (n i : Int) (x y : Sh) (p q : Option Addr) (m c m2 c2 : Nat) (ps qs : List Sm) (w : World) (hm : m = ps.length) (hm2 : m2 = qs.length) (hl : ∀ s ∈ ps, s.hash.length = 32) (hl2 : ∀ s ∈ qs, s.hash.length = 32) (hrow : RowAt w p 35 smCells ps) (hrow2 : RowAt w q 35 smCells qs) (hc : m ≤ c) (hcm : c ≤ maxLen) (hc2 : m2 ≤ c2) (hcm2 : c2 ≤ maxLen) (htab : Tabs w) (hcs : climbE n i x ps ≠ 0 ∨ (climbE n i x ps = 0 ∧ climbE n i y qs ≠ 0) ∨ (climbE n i x ps = 0 ∧ climbE n i y qs = 0 ∧ climbS n i x ps ≠ climbS n i y qs)) :
    Calls Tryd.prog 19 #[.int .i64 n, .int .i64 i, .agg (shCells x), .agg (shCells y), .slice p m c, .slice q m2 c2] w (RetC w ([], [], false)) := by
  have CL := Lib.hid fun W (hu : Up w W) => climb_calls n i x p m c ps W hm hl (hrow.up hu) hc hcm (htab.up hu)
  have CM := Lib.hid fun W (hu : Up w W) => climb_calls n i y q m2 c2 qs W hm2 hl2 (hrow2.up hu) hc2 hcm2 (htab.up hu)
  have h1s := climbS_hash n i x ps
  have h2s := climbS_hash n i y qs
  obtain ⟨S1, hS1⟩ : ∃ S, S = climbS n i x ps := ⟨_, rfl⟩
  obtain ⟨S2, hS2⟩ : ∃ S, S = climbS n i y qs := ⟨_, rfl⟩
  obtain ⟨e1, he1⟩ : ∃ e, e = climbE n i x ps := ⟨_, rfl⟩
  obtain ⟨e2, he2⟩ : ∃ e, e = climbE n i y qs := ⟨_, rfl⟩
  rw [← he1, ← hS1] at CL
  rw [← he2, ← hS2] at CM
  rw [← he1, ← he2, ← hS1, ← hS2] at hcs
  rw [← hS1] at h1s
  rw [← hS2] at h2s
  have EQ := fun W => run_neq_sum S1 S2 W h1s h2s
  have hAs : Hid ((shCells x).size = 5) := rfl
  have hBs : Hid ((shCells y).size = 5) := rfl
  have h1z : Hid ((smCells S1).toArray.size = 35) := by have := smCells_len h1s; show _ = _; simpa using this
  have h2z : Hid ((smCells S2).toArray.size = 35) := by have := smCells_len h2s; show _ = _; simpa using this
  have h1c : Hid ((smCells S1).toArray.all (·.oneCell') = true) := smCells_all _
  have h2c : Hid ((smCells S2).toArray.all (·.oneCell') = true) := smCells_all _
  obtain ⟨bb, hbb⟩ : ∃ bb, bb = !decide (S1 = S2) := ⟨_, rfl⟩
  rw [← hbb] at EQ
  obtain ⟨A, hA⟩ : ∃ A, A = shCells x := ⟨_, rfl⟩
  obtain ⟨B, hB⟩ : ∃ B, B = shCells y := ⟨_, rfl⟩
  obtain ⟨D1, hD1⟩ : ∃ D, D = (smCells S1).toArray := ⟨_, rfl⟩
  obtain ⟨D2, hD2⟩ : ∃ D, D = (smCells S2).toArray := ⟨_, rfl⟩
  rw [← hA] at CL hAs ⊢
  rw [← hB] at CM hBs ⊢
  rw [← hD1] at CL EQ h1z h1c
  rw [← hD2] at CM EQ h2z h2c
  have hcs2 : e1 ≠ 0 ∨ (e1 = 0 ∧ e2 ≠ 0) ∨ (e1 = 0 ∧ e2 = 0 ∧ bb = true) := by
    rcases hcs with h | h | ⟨h1, h2, h3⟩
    · exact .inl h
    · exact .inr (.inl h)
    · exact .inr (.inr ⟨h1, h2, by rw [hbb]; simp [h3]⟩)
  have HCS := Lib.hid hcs2
  clear hcs hcs2 hA hB hD1 hD2 hbb hS1 hS2 he1 he2 h1s h2s hl hl2 hrow hrow2 hm hm2 htab
  refine callsIn_wide (n := 3) |>.1 ?_
  refine callsIn_of_wp_marks Tryd.func19 rfl trivial ?_ rfl
  simp only [Tryd.ntmps19, List.size_toArray, List.length_cons, List.length_nil, Nat.reduceAdd, Nat.reduceSub, Array.replicate_succ, Array.replicate_zero, List.push_toArray, List.append_toArray, List.nil_append, List.cons_append]
  gi_wp2_with fail
  refine wpIn_scope ?_
  gi_wp2_with ((with_reducible show wpListIn _ _ _ _ _ (Oper.mk _ (Op.load _ (Operand.tmp 8)) _ _ _ _ :: _) _ _); refine wpListIn_named ?_; intro W1 hW1; (have u1 : Up w W1 := by (rw [hW1]; exact ((Up.refl w).alloc _).alloc _)); (have xa : W1.heap[w.heap.size]? = some (.cells A 38 (0, 0)) := by (rw [hW1, heap_old (by simp), heap_new rfl])); (have xb : W1.heap[w.heap.size + 1]? = some (.cells B 38 (0, 0)) := by (rw [hW1]; exact heap_new (by simp))); have U1 := Lib.hid u1; have XA := Lib.hid xa; have XB := Lib.hid xb; clear u1 xa xb hW1; refine wpListIn_load_arr wideF rfl 38 (.tmp 8) rfl w.heap.size 0 rfl A _ (rangeAt_row XA.out) rfl rfl (by rw [hAs.out]; rfl) ?_)
  refine ⟨trivial, callsIn_wide.2 ((CL.out W1 U1.out).mono ?_)⟩
  rintro e W2 ⟨rfl, u2⟩
  have U2 : Hid (Up w W2) := Up.trans U1.out u2
  have XA2 := Lib.hid ((u2.block _ (lt_of_block XA.out)).trans XA.out)
  have XB2 := Lib.hid ((u2.block _ (lt_of_block XB.out)).trans XB.out)
  clear u2 XA XB CL
  gi_wp2_with (first | (refine wpListIn_allocG wideF rfl 28 35 allocsSum rfl ?_; intro W3 u3 z3 hz3; obtain ⟨Z3, hZ3, hb3⟩ := hz3; have V3 := Lib.hid u3; have HZ3 := Lib.hid hZ3; have HB3 := Lib.hid hb3; clear u3 z3 hZ3 hb3) | (refine wpListIn_store_row wideF rfl 28 (.tmp 15) (.tmp 30) rfl _ D1 rfl rfl 28 _ HB3.out (by rw [h1z.out]; rfl) (by rw [HZ3.out, h1z.out]) h1c.out ?_; refine wpListIn_named ?_; intro W4 hW4; (have u4 : Up W2 W4 := setRow_upN hW4 V3.out (Nat.le_refl _)); (have p4 := setRow_named hW4 HB3.out); have XA4 := Lib.hid ((u4.block _ (lt_of_block XA2.out)).trans XA2.out); have XB4 := Lib.hid ((u4.block _ (lt_of_block XB2.out)).trans XB2.out); have P4 := Lib.hid p4; (have U4 : Hid (Up w W4) := Up.trans U2.out u4); clear u4 p4 hW4) | ((with_reducible show wpListIn _ _ _ _ _ (Oper.mk _ (Op.load _ (Operand.tmp 9)) _ _ _ _ :: _) _ _); refine wpListIn_load_arr wideF rfl 38 (.tmp 9) rfl (w.heap.size + 1) 0 rfl B _ (rangeAt_row XB4.out) rfl rfl (by rw [hBs.out]; rfl) ?_))
  obtain ⟨b15, hb15⟩ : ∃ b, b = W2.heap.size := ⟨_, rfl⟩
  rw [← hb15] at P4 ⊢
  clear hb15 HB3 V3
  refine ⟨trivial, callsIn_wide.2 ((CM.out W4 U4.out).mono ?_)⟩
  rintro e W5 ⟨rfl, u5⟩
  have U5 : Hid (Up w W5) := Up.trans U4.out u5
  have XA5 := Lib.hid ((u5.block _ (lt_of_block XA4.out)).trans XA4.out)
  have XB5 := Lib.hid ((u5.block _ (lt_of_block XB4.out)).trans XB4.out)
  have P5 := Lib.hid ((u5.block _ (lt_of_block P4.out)).trans P4.out)
  clear u5 XA4 XB4 XA2 XB2 P4 CM U2 U1
  rcases HCS.out with h1 | ⟨rfl, h2⟩ | ⟨rfl, rfl, rfl⟩
  · have d1 : (e1 != 0) = true := by rw [bne_iff_ne]; exact h1
    clear HCS h1
    gi_wp2_with (first | (refine wpListIn_allocG wideF rfl 28 35 allocsSum rfl ?_; intro W6 u6 z6 hz6; obtain ⟨Z6, hZ6, hb6⟩ := hz6; have V6 := Lib.hid u6; have HZ6 := Lib.hid hZ6; have HB6 := Lib.hid hb6; clear u6 z6 hZ6 hb6) | (refine wpListIn_store_row wideF rfl 28 (.tmp 17) (.tmp 38) rfl _ D2 rfl rfl 28 _ HB6.out (by rw [h2z.out]; rfl) (by rw [HZ6.out, h2z.out]) h2c.out ?_; refine wpListIn_named ?_; intro W7 hW7; (have u7 : Up W5 W7 := setRow_upN hW7 V6.out (Nat.le_refl _)); (have p7 := setRow_named hW7 HB6.out); have XA7 := Lib.hid ((u7.block _ (lt_of_block XA5.out)).trans XA5.out); have XB7 := Lib.hid ((u7.block _ (lt_of_block XB5.out)).trans XB5.out); have Q7 := Lib.hid ((u7.block _ (lt_of_block P5.out)).trans P5.out); have P7 := Lib.hid p7; (have U7 : Hid (Up w W7) := Up.trans U5.out u7); clear u7 p7 hW7) | ((with_reducible show wpListIn _ _ _ _ _ (Oper.mk _ (Op.load _ (Operand.tmp 15)) _ _ _ _ :: _) _ _); refine wpListIn_load_arrG wideF (by rfl) 28 (.tmp 15) rfl b15 0 rfl D1 _ (rangeAt_row Q7.out) rfl rfl (by rw [h1z.out]; rfl) ?_) | ((with_reducible show wpListIn _ _ _ _ _ (Oper.mk _ (Op.load _ (Operand.tmp 17)) _ _ _ _ :: _) _ _); refine wpListIn_load_arrG wideF (by rfl) 28 (.tmp 17) rfl _ 0 rfl D2 _ (rangeAt_row P7.out) rfl rfl (by rw [h2z.out]; rfl) ?_))
    exact postM_ret (results_tmp3 rfl _ _ _) rfl ⟨_, _, rfl, Own.nil _ _, Own.nil _ _, U7.out⟩
  · have d2 : (e2 != 0) = true := by rw [bne_iff_ne]; exact h2
    clear HCS h2
    gi_wp2_with (first | (refine wpListIn_allocG wideF rfl 28 35 allocsSum rfl ?_; intro W6 u6 z6 hz6; obtain ⟨Z6, hZ6, hb6⟩ := hz6; have V6 := Lib.hid u6; have HZ6 := Lib.hid hZ6; have HB6 := Lib.hid hb6; clear u6 z6 hZ6 hb6) | (refine wpListIn_store_row wideF rfl 28 (.tmp 17) (.tmp 38) rfl _ D2 rfl rfl 28 _ HB6.out (by rw [h2z.out]; rfl) (by rw [HZ6.out, h2z.out]) h2c.out ?_; refine wpListIn_named ?_; intro W7 hW7; (have u7 : Up W5 W7 := setRow_upN hW7 V6.out (Nat.le_refl _)); (have p7 := setRow_named hW7 HB6.out); have XA7 := Lib.hid ((u7.block _ (lt_of_block XA5.out)).trans XA5.out); have XB7 := Lib.hid ((u7.block _ (lt_of_block XB5.out)).trans XB5.out); have Q7 := Lib.hid ((u7.block _ (lt_of_block P5.out)).trans P5.out); have P7 := Lib.hid p7; (have U7 : Hid (Up w W7) := Up.trans U5.out u7); clear u7 p7 hW7) | ((with_reducible show wpListIn _ _ _ _ _ (Oper.mk _ (Op.load _ (Operand.tmp 15)) _ _ _ _ :: _) _ _); refine wpListIn_load_arrG wideF (by rfl) 28 (.tmp 15) rfl b15 0 rfl D1 _ (rangeAt_row Q7.out) rfl rfl (by rw [h1z.out]; rfl) ?_) | ((with_reducible show wpListIn _ _ _ _ _ (Oper.mk _ (Op.load _ (Operand.tmp 17)) _ _ _ _ :: _) _ _); refine wpListIn_load_arrG wideF (by rfl) 28 (.tmp 17) rfl _ 0 rfl D2 _ (rangeAt_row P7.out) rfl rfl (by rw [h2z.out]; rfl) ?_))
    exact postM_ret (results_tmp3 rfl _ _ _) rfl ⟨_, _, rfl, Own.nil _ _, Own.nil _ _, U7.out⟩
  · clear HCS
    gi_wp2_with (first | (refine wpListIn_allocG wideF rfl 28 35 allocsSum rfl ?_; intro W6 u6 z6 hz6; obtain ⟨Z6, hZ6, hb6⟩ := hz6; have V6 := Lib.hid u6; have HZ6 := Lib.hid hZ6; have HB6 := Lib.hid hb6; clear u6 z6 hZ6 hb6) | (refine wpListIn_store_row wideF rfl 28 (.tmp 17) (.tmp 38) rfl _ D2 rfl rfl 28 _ HB6.out (by rw [h2z.out]; rfl) (by rw [HZ6.out, h2z.out]) h2c.out ?_; refine wpListIn_named ?_; intro W7 hW7; (have u7 : Up W5 W7 := setRow_upN hW7 V6.out (Nat.le_refl _)); (have p7 := setRow_named hW7 HB6.out); have XA7 := Lib.hid ((u7.block _ (lt_of_block XA5.out)).trans XA5.out); have XB7 := Lib.hid ((u7.block _ (lt_of_block XB5.out)).trans XB5.out); have Q7 := Lib.hid ((u7.block _ (lt_of_block P5.out)).trans P5.out); have P7 := Lib.hid p7; (have U7 : Hid (Up w W7) := Up.trans U5.out u7); clear u7 p7 hW7) | ((with_reducible show wpListIn _ _ _ _ _ (Oper.mk _ (Op.load _ (Operand.tmp 15)) _ _ _ _ :: _) _ _); refine wpListIn_load_arrG wideF (by rfl) 28 (.tmp 15) rfl b15 0 rfl D1 _ (rangeAt_row Q7.out) rfl rfl (by rw [h1z.out]; rfl) ?_) | ((with_reducible show wpListIn _ _ _ _ _ (Oper.mk _ (Op.load _ (Operand.tmp 17)) _ _ _ _ :: _) _ _); refine wpListIn_load_arrG wideF (by rfl) 28 (.tmp 17) rfl _ 0 rfl D2 _ (rangeAt_row P7.out) rfl rfl (by rw [h2z.out]; rfl) ?_))
    exact postM_ret (results_tmp3 rfl _ _ _) rfl ⟨_, _, rfl, Own.nil _ _, Own.nil _ _, U7.out⟩


end Go.Proofs.YtobcfhninchnkaaDoor

namespace Go.Proofs.YtobcfhninchnkaaDoor
open Go Go.RowKit Go.Shelf
attribute [local go_sem] Oper.semAt_some wide_depth
set_option linter.unusedVariables false
set_option maxRecDepth 100000

set_option maxHeartbeats 16000000 in
theorem pcoll_good (n i : Nat) (x y : Sh) (p q : Option Addr) (m c m2 c2 : Nat) (ps qs : List Sm) (w : World) (hm : m = ps.length) (hm2 : m2 = qs.length) (hl : ∀ s ∈ ps, s.hash.length = 32) (hl2 : ∀ s ∈ qs, s.hash.length = 32) (hrow : RowAt w p 35 smCells ps) (hrow2 : RowAt w q 35 smCells qs) (hc : m ≤ c) (hcm : c ≤ maxLen) (hc2 : m2 ≤ c2) (hcm2 : c2 ≤ maxLen) (htab : Tabs w) (hn1 : 1 ≤ n) (hn : n ≤ 600) (hin : i < n) (hf : fineB x = true) (hlen : ps.length = (turnsS n i).length) (hall : ps.all rightB = true) (hfy : fineB y = true) (hlen2 : qs.length = (turnsS n i).length) (hall2 : qs.all rightB = true)
    (hcs : climbE n i x ps = 0 ∧ climbE n i y qs = 0 ∧ climbS n i x ps = climbS n i y qs) :
    Calls Tryd.prog 19 #[.int .i64 n, .int .i64 i, .agg (shCells x), .agg (shCells y), .slice p m c, .slice q m2 c2] w (RetC w (scanS (txS x (turnsS n i).reverse ps) (txS y (turnsS n i).reverse qs) (ps.length + 1))) := by
  have CL := Lib.hid fun W (hu : Up w W) => climb_calls n i x p m c ps W hm hl (hrow.up hu) hc hcm (htab.up hu)
  have CM := Lib.hid fun W (hu : Up w W) => climb_calls n i y q m2 c2 qs W hm2 hl2 (hrow2.up hu) hc2 hcm2 (htab.up hu)
  have h1s := climbS_hash n i x ps
  have h2s := climbS_hash n i y qs
  obtain ⟨S1, hS1⟩ : ∃ S, S = climbS n i x ps := ⟨_, rfl⟩
  obtain ⟨S2, hS2⟩ : ∃ S, S = climbS n i y qs := ⟨_, rfl⟩
  obtain ⟨e1, he1⟩ : ∃ e, e = climbE n i x ps := ⟨_, rfl⟩
  obtain ⟨e2, he2⟩ : ∃ e, e = climbE n i y qs := ⟨_, rfl⟩
  rw [← he1, ← hS1] at CL
  rw [← he2, ← hS2] at CM
  rw [← he1, ← he2, ← hS1, ← hS2] at hcs
  rw [← hS1] at h1s
  rw [← hS2] at h2s
  have EQ := fun W => run_neq_sum S1 S2 W h1s h2s
  have hAs : Hid ((shCells x).size = 5) := rfl
  have hBs : Hid ((shCells y).size = 5) := rfl
  have h1z : Hid ((smCells S1).toArray.size = 35) := by have := smCells_len h1s; show _ = _; simpa using this
  have h2z : Hid ((smCells S2).toArray.size = 35) := by have := smCells_len h2s; show _ = _; simpa using this
  have h1c : Hid ((smCells S1).toArray.all (·.oneCell') = true) := smCells_all _
  have h2c : Hid ((smCells S2).toArray.all (·.oneCell') = true) := smCells_all _
  obtain ⟨bb, hbb⟩ : ∃ bb, bb = !decide (S1 = S2) := ⟨_, rfl⟩
  rw [← hbb] at EQ
  have OK : WayOk w n i x p ps c := ⟨hin, by omega, hf, hlen, fun s hs => rightB_le (hl s hs) (List.all_eq_true.1 hall s hs), hrow, by omega, hcm, htab⟩
  have OK2 : WayOk w n i y q qs c2 := ⟨hin, by omega, hfy, hlen2, fun s hs => rightB_le (hl2 s hs) (List.all_eq_true.1 hall2 s hs), hrow2, by omega, hcm2, htab⟩
  have WG := Lib.hid fun hb (hhb : w.heap.size ≤ hb) => way1_gives w n i x p ps c hb m hm OK hhb
  have WC := Lib.hid fun W => way_calls n i x (.slice p m c) p m c rfl W
  have WH := Lib.hid fun hb (hhb : w.heap.size ≤ hb) => way1_gives w n i y q qs c2 hb m2 hm2 OK2 hhb
  have WD := Lib.hid fun W => way_calls n i y (.slice q m2 c2) q m2 c2 rfl W
  have hta := txS_length x (turnsS n i).reverse ps (by rw [List.length_reverse, hlen])
  have htb := txS_length y (turnsS n i).reverse qs (by rw [List.length_reverse, hlen2])
  have hla := txS_len (ts := (turnsS n i).reverse) hf hl
  have hlb := txS_len (ts := (turnsS n i).reverse) hfy hl2
  have h700 : ps.length ≤ 700 := by have := turnsS_length n n i rfl; omega
  rw [hlen2, ← hlen] at htb
  obtain ⟨xs, hxs⟩ : ∃ xs, xs = wayS x (turnsS n i).reverse ps := ⟨_, rfl⟩
  obtain ⟨ys, hys⟩ : ∃ ys, ys = wayS y (turnsS n i).reverse qs := ⟨_, rfl⟩
  unfold txS at hta htb hla hlb ⊢
  rw [← hxs] at WG hta hla ⊢
  rw [← hys] at WH htb hlb ⊢
  obtain ⟨la, hLA⟩ : ∃ la, la = ps.length + 1 := ⟨_, rfl⟩
  rw [← hLA] at hta htb ⊢
  have hla1 : 1 ≤ la := by omega
  have hla2 : la ≤ 1000 := by omega
  have HL1 : Hid (xs.length ≤ 1000) := by show _ ≤ _; rw [List.length_map] at hta; omega
  have HL2 : Hid (ys.length ≤ 1000) := by show _ ≤ _; rw [List.length_map] at htb; omega
  obtain ⟨ta, hta0⟩ : ∃ ta, ta = xs.map (·.1) := ⟨_, rfl⟩
  obtain ⟨tb, htb0⟩ : ∃ tb, tb = ys.map (·.1) := ⟨_, rfl⟩
  rw [← hta0] at hta hla ⊢
  rw [← htb0] at htb hlb ⊢
  have HTA0 := Lib.hid hta0
  have HTB0 := Lib.hid htb0
  have HLA := Lib.hid hta
  have HLB := Lib.hid htb
  have HMA := Lib.hid hla
  have HMB := Lib.hid hlb
  obtain ⟨r0, hr0⟩ : ∃ r, r = scanS ta tb la := ⟨_, rfl⟩
  rw [← hr0]
  have HR := Lib.hid hr0
  obtain ⟨he10, he20, hss⟩ := hcs
  have hbf : bb = false := by rw [hbb, hss]; simp
  obtain ⟨A, hA⟩ : ∃ A, A = shCells x := ⟨_, rfl⟩
  obtain ⟨B, hB⟩ : ∃ B, B = shCells y := ⟨_, rfl⟩
  obtain ⟨D1, hD1⟩ : ∃ D, D = (smCells S1).toArray := ⟨_, rfl⟩
  obtain ⟨D2, hD2⟩ : ∃ D, D = (smCells S2).toArray := ⟨_, rfl⟩
  rw [← hA] at CL hAs WC ⊢
  rw [← hB] at CM hBs WD ⊢
  rw [← hD1] at CL EQ h1z h1c
  rw [← hD2] at CM EQ h2z h2c
  subst hbf
  subst he10
  subst he20
  clear hA hB hD1 hD2 hbb hS1 hS2 he1 he2 h1s h2s hl hl2 hrow hrow2 hm hm2 htab hr0 hta0 htb0 hta htb hla hlb hLA hxs hys OK OK2 hss h700 hlen hlen2 hall hall2 hf hfy
  refine callsIn_wide (n := 3) |>.1 ?_
  refine callsIn_of_wp_marks Tryd.func19 rfl trivial ?_ rfl
  simp only [Tryd.ntmps19, List.size_toArray, List.length_cons, List.length_nil, Nat.reduceAdd, Nat.reduceSub, Array.replicate_succ, Array.replicate_zero, List.push_toArray, List.append_toArray, List.nil_append, List.cons_append]
  gi_wp2_with fail
  refine wpIn_scope ?_
  gi_wp2_with ((with_reducible show wpListIn _ _ _ _ _ (Oper.mk _ (Op.load _ (Operand.tmp 8)) _ _ _ _ :: _) _ _); refine wpListIn_named ?_; intro W1 hW1; (have u1 : Up w W1 := by (rw [hW1]; exact ((Up.refl w).alloc _).alloc _)); (have xa : W1.heap[w.heap.size]? = some (.cells A 38 (0, 0)) := by (rw [hW1, heap_old (by simp), heap_new rfl])); (have xb : W1.heap[w.heap.size + 1]? = some (.cells B 38 (0, 0)) := by (rw [hW1]; exact heap_new (by simp))); have U1 := Lib.hid u1; have XA := Lib.hid xa; have XB := Lib.hid xb; clear u1 xa xb hW1; refine wpListIn_load_arr wideF rfl 38 (.tmp 8) rfl w.heap.size 0 rfl A _ (rangeAt_row XA.out) rfl rfl (by rw [hAs.out]; rfl) ?_)
  refine ⟨trivial, callsIn_wide.2 ((CL.out W1 U1.out).mono ?_)⟩
  rintro e W2 ⟨rfl, u2⟩
  have U2 : Hid (Up w W2) := Up.trans U1.out u2
  have XA2 := Lib.hid ((u2.block _ (lt_of_block XA.out)).trans XA.out)
  have XB2 := Lib.hid ((u2.block _ (lt_of_block XB.out)).trans XB.out)
  clear u2 XA XB CL
  gi_wp2_with (first | (refine wpListIn_allocG wideF rfl 28 35 allocsSum rfl ?_; intro W3 u3 z3 hz3; obtain ⟨Z3, hZ3, hb3⟩ := hz3; have V3 := Lib.hid u3; have HZ3 := Lib.hid hZ3; have HB3 := Lib.hid hb3; clear u3 z3 hZ3 hb3) | (refine wpListIn_store_row wideF rfl 28 (.tmp 15) (.tmp 30) rfl _ D1 rfl rfl 28 _ HB3.out (by rw [h1z.out]; rfl) (by rw [HZ3.out, h1z.out]) h1c.out ?_; refine wpListIn_named ?_; intro W4 hW4; (have u4 : Up W2 W4 := setRow_upN hW4 V3.out (Nat.le_refl _)); (have p4 := setRow_named hW4 HB3.out); have XA4 := Lib.hid ((u4.block _ (lt_of_block XA2.out)).trans XA2.out); have XB4 := Lib.hid ((u4.block _ (lt_of_block XB2.out)).trans XB2.out); have P4 := Lib.hid p4; (have U4 : Hid (Up w W4) := Up.trans U2.out u4); clear u4 p4 hW4) | ((with_reducible show wpListIn _ _ _ _ _ (Oper.mk _ (Op.load _ (Operand.tmp 9)) _ _ _ _ :: _) _ _); refine wpListIn_load_arr wideF rfl 38 (.tmp 9) rfl (w.heap.size + 1) 0 rfl B _ (rangeAt_row XB4.out) rfl rfl (by rw [hBs.out]; rfl) ?_))
  obtain ⟨b15, hb15⟩ : ∃ b, b = W2.heap.size := ⟨_, rfl⟩
  rw [← hb15] at P4 ⊢
  clear hb15 HB3 V3
  refine ⟨trivial, callsIn_wide.2 ((CM.out W4 U4.out).mono ?_)⟩
  rintro e W5 ⟨rfl, u5⟩
  have U5 : Hid (Up w W5) := Up.trans U4.out u5
  have XA5 := Lib.hid ((u5.block _ (lt_of_block XA4.out)).trans XA4.out)
  have XB5 := Lib.hid ((u5.block _ (lt_of_block XB4.out)).trans XB4.out)
  have P5 := Lib.hid ((u5.block _ (lt_of_block P4.out)).trans P4.out)
  clear u5 XA4 XB4 XA2 XB2 P4 CM U2 U1
  gi_wp2_with (first | (refine wpListIn_allocG wideF rfl 28 35 allocsSum rfl ?_; intro W6 u6 z6 hz6; obtain ⟨Z6, hZ6, hb6⟩ := hz6; have V6 := Lib.hid u6; have HZ6 := Lib.hid hZ6; have HB6 := Lib.hid hb6; clear u6 z6 hZ6 hb6) | (refine wpListIn_store_row wideF rfl 28 (.tmp 17) (.tmp 38) rfl _ D2 rfl rfl 28 _ HB6.out (by rw [h2z.out]; rfl) (by rw [HZ6.out, h2z.out]) h2c.out ?_; refine wpListIn_named ?_; intro W7 hW7; (have u7 : Up W5 W7 := setRow_upN hW7 V6.out (Nat.le_refl _)); (have p7 := setRow_named hW7 HB6.out); have XA7 := Lib.hid ((u7.block _ (lt_of_block XA5.out)).trans XA5.out); have XB7 := Lib.hid ((u7.block _ (lt_of_block XB5.out)).trans XB5.out); have Q7 := Lib.hid ((u7.block _ (lt_of_block P5.out)).trans P5.out); have P7 := Lib.hid p7; (have U7 : Hid (Up w W7) := Up.trans U5.out u7); clear u7 p7 hW7) | ((with_reducible show wpListIn _ _ _ _ _ (Oper.mk _ (Op.load _ (Operand.tmp 15)) _ _ _ _ :: _) _ _); refine wpListIn_load_arrG wideF (by rfl) 28 (.tmp 15) rfl b15 0 rfl D1 _ (rangeAt_row Q7.out) rfl rfl (by rw [h1z.out]; rfl) ?_) | ((with_reducible show wpListIn _ _ _ _ _ (Oper.mk _ (Op.load _ (Operand.tmp 17)) _ _ _ _ :: _) _ _); refine wpListIn_load_arrG wideF (by rfl) 28 (.tmp 17) rfl _ 0 rfl D2 _ (rangeAt_row P7.out) rfl rfl (by rw [h2z.out]; rfl) ?_) | ((with_reducible show wpListIn _ _ _ _ _ (Oper.mk _ (Op.load _ (Operand.tmp 8)) _ _ _ _ :: _) _ _); refine wpListIn_named ?_; intro W8 hW8; (have u8 : Up W7 W8 := by (rw [hW8]; exact ((Up.refl W7).alloc _).alloc _)); (have c19 : W8.heap[W7.heap.size]? = some (.cells #[.slice none 0 0] 74 (0, 0)) := by (rw [hW8, heap_old (by simp), heap_new rfl])); (have c20 : W8.heap[W7.heap.size + 1]? = some (.cells #[.slice none 0 0] 74 (0, 0)) := by (rw [hW8]; exact heap_new (by simp))); have C19 := Lib.hid c19; have C20 := Lib.hid c20; have U8 : Hid (Up w W8) := Up.trans U7.out u8; have XA8 := Lib.hid ((u8.block _ (lt_of_block XA7.out)).trans XA7.out); have XB8 := Lib.hid ((u8.block _ (lt_of_block XB7.out)).trans XB7.out); clear u8 c19 c20 hW8; refine wpListIn_load_arr wideF rfl 38 (.tmp 8) rfl w.heap.size 0 rfl A _ (rangeAt_row XA8.out) rfl rfl (by rw [hAs.out]; rfl) ?_))
  clear Q7 P7 HB6 V6 P5 EQ U4
  obtain ⟨b19, hb19⟩ : ∃ b, b = W7.heap.size := ⟨_, rfl⟩
  rw [← hb19] at C19 C20 ⊢
  obtain ⟨b20, hb20⟩ : ∃ b, b = b19 + 1 := ⟨_, rfl⟩
  rw [← hb20] at C20 ⊢
  have w19 : w.heap.size ≤ b19 := by rw [hb19]; exact U7.out.size
  have HX19 : Hid (w.heap.size + 2 ≤ b19) := by have := lt_of_block XB7.out; show _ ≤ _; omega
  have HB20 := Lib.hid hb20
  refine ⟨trivial, callsIn_wide.2 ((WC.out W8).mono ?_)⟩
  rintro e W9 ⟨rfl, u9, s9, k9⟩
  obtain ⟨hb, hhb⟩ : ∃ b, b = W8.heap.size := ⟨_, rfl⟩
  have U9 : Up w W9 := Up.trans U8.out u9
  have K9 : KW w hb n i x (.slice p m c) W9 := by
    rw [← hhb] at k9
    exact ⟨fun k hk => U9.block k hk, k9.b0, k9.b1, k9.b2, k9.b3, U9.size⟩
  rw [← hhb]
  have h20 := lt_of_block C20.out
  have hb19lt : b19 < hb := by omega
  have hb20lt : b20 < hb := by omega
  have hhw : w.heap.size ≤ hb := by omega
  have e9 : hb + 4 ≤ W9.heap.size := by rw [s9, hhb]; exact Nat.le_refl _
  have C19' := (u9.block _ (lt_of_block C19.out)).trans C19.out
  have C20' := (u9.block _ (lt_of_block C20.out)).trans C20.out
  have XB9 := Lib.hid ((u9.block _ (lt_of_block XB8.out)).trans XB8.out)
  have G1 := Lib.hid K9
  have GU := Lib.hid U9
  have HW9 : Hid (w.heap.size ≤ W9.heap.size) := U9.size
  have Hb19 : Hid (b19 < W9.heap.size) := by show _ < _; omega
  have Hb20 : Hid (b20 < W9.heap.size) := by show _ < _; omega
  clear C19 C20
  have C19 := Lib.hid C19'
  have C20 := Lib.hid C20'
  clear C19' C20' K9 U9 k9 u9 s9 hhb hb19 hb20 XA8 XB8 XA7 XB7 XA5 XB5 U5 U7 U8 h20
  gi_wp2_with fail
  refine wpIn_tmps ?_
  intro T hT
  have HT := Lib.hid hT
  clear hT
  refine wpIn_range3 (gf := 55) (lb := #[.pointer (some ⟨hb + 2, 0, none⟩), .pointer (some ⟨hb, 0, none⟩), .pointer (some ⟨hb + 1, 0, none⟩), .pointer (some ⟨hb + 3, 0, none⟩)]) (by rw [HT.out]; rfl)
    (enters_of Tryd.func55 (by kernel_rfl) rfl) (fun O y args W h => wayE_of O y args W h) (WG.out hb (by omega))
    (fun k hk => hk.elim) (fun k hk => by rcases hk with hk | hk <;> omega) ?init1
    (fun O pre W => Hid (Gath W9 b19 O pre W))
    (fun _ _ _ _ => False) ?hI1 ?hIx1 (Gath.zero C19.out)
    (fun O y a' W => ∃ q l c, a' = { tmps := ((T.setIfInBounds 56 (.slice q l c)).setIfInBounds 57 (.agg (smCells y.2).toArray)).setIfInBounds 21 (.slice q l c), defers := [] } ∧ Hid (Own W 0 (.slice q l c) y.1) ∧ Hid (Free O W9.heap.size (.slice q l c)) ∧ Hid (∀ k, O k → k < W.heap.size))
    ?hA1 ?assign1 ?body1 ?done1 (fun _ _ _ _ _ _ h => h.elim)
  case init1 => exact fun W hc => G1.out.chg hc fun k _ h => h
  case hIx1 => exact fun c O O' s A B h => h.elim
  case hI1 => exact fun O O' s A B h hO hg hc => Gath.chg h.out (by omega) hO hg hc
  case hA1 =>
    rintro O y a' A B ⟨q, l, c, rfl, y1, y2, y3⟩ hlt hch
    exact ⟨q, l, c, rfl, y1.out.kept (fun g hg => hch.block g (y1.out.isB g hg).lt (y2.out g hg).2.2), y2, fun k hk => Nat.lt_of_lt_of_le (y3.out k hk) hch.size⟩
  case assign1 =>
    intro l O pre y rest W args K' hx hi hE hlt hn1 hn2 hK
    obtain ⟨ve, rfl, o1, o2, o3⟩ := hE
    obtain ⟨qe, ce, rfl, -, -, -⟩ := o1.form
    have fr : Free O W9.heap.size (.slice qe y.1.length ce) := fun g hg => ⟨o2 g hg, by rintro rfl; obtain ⟨cur, hc⟩ := o1.isB _ hg; exact hn1 _ _ _ hc, by rintro rfl; obtain ⟨cur, hc⟩ := o1.isB _ hg; exact hn2 _ _ _ hc⟩
    have HKK := Lib.hid hK
    have O1 := Lib.hid o1
    have O3 := Lib.hid o3
    have FR := Lib.hid fr
    clear hK hi hx hlt hn1 hn2 o1 o2 o3 fr
    obtain ⟨Y, hY⟩ : ∃ Y, Y = (smCells y.2).toArray := ⟨_, rfl⟩
    have HY := Lib.hid hY
    rw [← hY]
    clear hY
    have hT := HT.out
    subst hT
    go_simp
    gi_wp2_with fail
    refine HKK.out _ W (Chg.refl _ _) ⟨qe, _, ce, by rw [← HY.out]; rfl, O1, FR, O3⟩
  case body1 =>
    rintro l O pre y rest a' W hO hx hG ⟨qe, le, ce, rfl, o1, o2, o3⟩ hlt
    obtain ⟨⟨pv, nv, cv, us, g1, g2, g3, g4, g5⟩, g6⟩ := hG.out
    have hul : us.length ≤ 1000 := by
      have h1 := g4.1
      have h2 := HL1.out
      rw [hx] at h2
      simp at h1 h2
      omega
    have hs9 : W9.heap.size ≤ W.heap.size := by omega
    have HUL := Lib.hid hul
    have HG1 := Lib.hid g1
    have HG2 := Lib.hid g2
    have HG3 := Lib.hid g3
    have HG4 := Lib.hid g4
    have HG5 := Lib.hid g5
    have HG6 := Lib.hid g6
    have HO := Lib.hid hO
    have hcell : W.cell? ⟨b19, 0, none⟩ = some (.slice pv nv cv) := cell_of_one g1
    have HS9 := Lib.hid hs9
    have HLT := Lib.hid hlt
    obtain ⟨Y, hY⟩ : ∃ Y, Y = (smCells y.2).toArray := ⟨_, rfl⟩
    rw [← hY]
    clear hY g1 g2 g3 g4 g5 g6 hul hG hx hO hs9 hlt
    have hT := HT.out
    subst hT
    go_simp
    gi_wp2_with ((with_reducible show wpListIn _ _ _ _ _ (Oper.mk _ (Op.call _) _ _ _ _ :: _) _ _); refine wpListIn_named ?_; intro W1 hW1; (have hu : Up W W1 := by (rw [hW1]; exact (Up.refl W).alloc _)); (have r1 : RowAt W1 (some ⟨W.heap.size, 0, none⟩) 1 vEnc [.slice qe le ce] := rowAt_one (D := #[.slice qe le ce]) rfl (by (rw [hW1]; exact heap_new rfl))); refine wpListIn_appR (wideF_round l) rfl (.tmp 58) (.tmp 60) eltTxt (by omega) rfl rfl W9.heap.size _ us _ 1 1 [.slice qe le ce] rfl rfl rfl (fun v _ => vEnc_len v) (fun v hv u hu => by (rw [List.mem_singleton.1 hv] at hu; rw [List.mem_singleton.1 hu]; rfl)) (HG2.out.up hu) r1 (by (have := HUL.out; simp; omega)) (Nat.le_trans HS9.out hu.size) ?_; intro q' m' d' w5 o5 b5 g5'; (have pu := Gath.push (y := y) Hb19.out HO.out HLT.out o3.out HG1.out HG2.out HG3.out HG4.out HG5.out HG6.out o1.out o2.out hu o5 g5'); have PU := Lib.hid pu; (have hc5 : w5.cell? ⟨b19, 0, none⟩ = some (.slice pv nv cv) := cell_of_one pu.2.2); (have hf5 : w5.frozen? ⟨b19, 0, none⟩ = false := free_of_one pu.2.2); clear hu r1 o5 b5 g5' pu hW1)
    refine ⟨PU.out.1 _ (fun k hk => ?_), PU.out.2.1⟩
    have := Hb19.out
    rcases hk with hk | hk <;> omega
  case done1 =>
    rintro O W hG hO hlt hdf
    have HDF := Lib.hid hdf
    obtain ⟨⟨pv, nv, cv, us, g1, g2, g3, g4, g5⟩, g6⟩ := hG.out
    have HG1 := Lib.hid g1
    have HG2 := Lib.hid (g2.less (Nat.zero_le _))
    have HG4 := Lib.hid g4
    have UWW : Up w W := Up.chgS GU.out g6 (fun k hk => by subst hk; omega)
    have b1x : w.heap.size + 1 ≠ b19 := by have := HX19.out; omega
    have XB10 := Lib.hid ((g6.block (w.heap.size + 1) (lt_of_block XB9.out) b1x).trans XB9.out)
    have b20x : b20 ≠ b19 := by have := HB20.out; omega
    have D20 := Lib.hid ((g6.block b20 Hb20.out b20x).trans C20.out)
    have UW := Lib.hid UWW
    have hT := HT.out
    subst hT
    clear hG g1 g2 g3 g4 g5 g6 hdf hO WG WC G1 HT b1x b20x UWW
    gi_wp2_with ((with_reducible show wpListIn _ _ _ _ _ (Oper.mk _ (Op.load _ (Operand.tmp 9)) _ _ _ _ :: _) _ _); refine wpListIn_load_arr wideF rfl 38 (.tmp 9) rfl (w.heap.size + 1) 0 rfl B _ (rangeAt_row XB10.out) rfl rfl (by rw [hBs.out]; rfl) ?_)
    refine ⟨trivial, callsIn_wide.2 ((WD.out W).mono ?_)⟩
    rintro e W11 ⟨rfl, u11, s11, k11⟩
    obtain ⟨hc, hhc⟩ : ∃ b, b = W.heap.size := ⟨_, rfl⟩
    have U11 : Up w W11 := Up.trans UW.out u11
    have K11 : KW w hc n i y (.slice q m2 c2) W11 := by
      rw [← hhc] at k11
      exact ⟨fun k hk => U11.block k hk, k11.b0, k11.b1, k11.b2, k11.b3, U11.size⟩
    rw [← hhc]
    have b20lt : b20 < hc := by rw [hhc]; exact lt_of_block D20.out
    have e11 : hc + 4 ≤ W11.heap.size := by rw [s11, hhc]; exact Nat.le_refl _
    have hcw : w.heap.size ≤ hc := by rw [hhc]; exact UW.out.size
    have h9c : W9.heap.size + 1 < hc := by rw [hhc]; exact hlt
    have C20' := (u11.block _ (lt_of_block D20.out)).trans D20.out
    have M1 := Lib.hid ((u11.block _ (lt_of_block HDF.out)).trans HDF.out)
    have E1 := Lib.hid ((u11.block _ (lt_of_block HG1.out)).trans HG1.out)
    have E2 := Lib.hid (HG2.out.up u11)
    have E4 := Lib.hid (HG4.out.up u11)
    have G2 := Lib.hid K11
    have GU2 := Lib.hid U11
    have HW11 : Hid (w.heap.size ≤ W11.heap.size) := U11.size
    have HNE : Hid (W9.heap.size + 1 < W11.heap.size) := by show _ < _; omega
    clear Hb20 C20
    have Hb20 : Hid (b20 < W11.heap.size) := by show _ < _; omega
    have w20 : w.heap.size ≤ b20 := by have := HB20.out; omega
    have C20 := Lib.hid C20'
    clear C20' K11 U11 k11 u11 s11 hhc D20 HG1 HG2 HG4 HDF UW XB10 GU XB9
    gi_wp2_with fail
    refine wpIn_tmps ?_
    intro T2 hT2
    have HT2 := Lib.hid hT2
    clear hT2
    refine wpIn_range3 (gf := 55) (lb := #[.pointer (some ⟨hc + 2, 0, none⟩), .pointer (some ⟨hc, 0, none⟩), .pointer (some ⟨hc + 1, 0, none⟩), .pointer (some ⟨hc + 3, 0, none⟩)]) (by rw [HT2.out]; rfl)
      (enters_of Tryd.func55 (by kernel_rfl) rfl) (fun O y args W h => wayE_of O y args W h) (WH.out hc (by omega))
      (fun k hk => hk.elim) (fun k hk => by rcases hk with hk | hk <;> omega) ?init2
      (fun O pre W => Hid (Gath W11 b20 O pre W))
      (fun _ _ _ _ => False) ?hI2 ?hIx2 (Gath.zero C20.out)
      (fun O y a' W => ∃ q l c, a' = { tmps := ((T2.setIfInBounds 67 (.slice q l c)).setIfInBounds 68 (.agg (smCells y.2).toArray)).setIfInBounds 22 (.slice q l c), defers := [] } ∧ Hid (Own W 0 (.slice q l c) y.1) ∧ Hid (Free O W11.heap.size (.slice q l c)) ∧ Hid (∀ k, O k → k < W.heap.size))
      ?hA2 ?assign2 ?body2 ?done2 (fun _ _ _ _ _ _ h => h.elim)
    case init2 => exact fun W hc => G2.out.chg hc fun k _ h => h
    case hIx2 => exact fun c O O' s A B h => h.elim
    case hI2 => exact fun O O' s A B h hO hg hc => Gath.chg h.out (by omega) hO hg hc
    case hA2 =>
      rintro O y a' A B ⟨q, l, c, rfl, y1, y2, y3⟩ hlt hch
      exact ⟨q, l, c, rfl, y1.out.kept (fun g hg => hch.block g (y1.out.isB g hg).lt (y2.out g hg).2.2), y2, fun k hk => Nat.lt_of_lt_of_le (y3.out k hk) hch.size⟩
    case assign2 =>
      intro l O pre y rest W args K' hx hi hE hlt hn1 hn2 hK
      obtain ⟨ve, rfl, o1, o2, o3⟩ := hE
      obtain ⟨qe, ce, rfl, -, -, -⟩ := o1.form
      have fr : Free O W11.heap.size (.slice qe y.1.length ce) := fun g hg => ⟨o2 g hg, by rintro rfl; obtain ⟨cur, hc⟩ := o1.isB _ hg; exact hn1 _ _ _ hc, by rintro rfl; obtain ⟨cur, hc⟩ := o1.isB _ hg; exact hn2 _ _ _ hc⟩
      have HKK := Lib.hid hK
      have O1 := Lib.hid o1
      have O3 := Lib.hid o3
      have FR := Lib.hid fr
      clear hK hi hx hlt hn1 hn2 o1 o2 o3 fr
      obtain ⟨Y, hY⟩ : ∃ Y, Y = (smCells y.2).toArray := ⟨_, rfl⟩
      have HY := Lib.hid hY
      rw [← hY]
      clear hY
      have hT := HT2.out
      subst hT
      go_simp
      gi_wp2_with fail
      refine HKK.out _ W (Chg.refl _ _) ⟨qe, _, ce, by rw [← HY.out]; rfl, O1, FR, O3⟩
    case body2 =>
      rintro l O pre y rest a' W hO hx hG ⟨qe, le, ce, rfl, o1, o2, o3⟩ hlt
      obtain ⟨⟨pv, nv, cv, us, g1, g2, g3, g4, g5⟩, g6⟩ := hG.out
      have hul : us.length ≤ 1000 := by
        have h1 := g4.1
        have h2 := HL2.out
        rw [hx] at h2
        simp at h1 h2
        omega
      have hs9 : W11.heap.size ≤ W.heap.size := by omega
      have HUL := Lib.hid hul
      have HG1 := Lib.hid g1
      have HG2 := Lib.hid g2
      have HG3 := Lib.hid g3
      have HG4 := Lib.hid g4
      have HG5 := Lib.hid g5
      have HG6 := Lib.hid g6
      have HO := Lib.hid hO
      have hcell : W.cell? ⟨b20, 0, none⟩ = some (.slice pv nv cv) := cell_of_one g1
      have HS9 := Lib.hid hs9
      have HLT := Lib.hid hlt
      obtain ⟨Y, hY⟩ : ∃ Y, Y = (smCells y.2).toArray := ⟨_, rfl⟩
      rw [← hY]
      clear hY g1 g2 g3 g4 g5 g6 hul hG hx hO hs9 hlt
      have hT := HT2.out
      subst hT
      go_simp
      gi_wp2_with ((with_reducible show wpListIn _ _ _ _ _ (Oper.mk _ (Op.call _) _ _ _ _ :: _) _ _); refine wpListIn_named ?_; intro W1 hW1; (have hu : Up W W1 := by (rw [hW1]; exact (Up.refl W).alloc _)); (have r1 : RowAt W1 (some ⟨W.heap.size, 0, none⟩) 1 vEnc [.slice qe le ce] := rowAt_one (D := #[.slice qe le ce]) rfl (by (rw [hW1]; exact heap_new rfl))); refine wpListIn_appR (wideF_round l) rfl (.tmp 69) (.tmp 71) eltTxt (by omega) rfl rfl W11.heap.size _ us _ 1 1 [.slice qe le ce] rfl rfl rfl (fun v _ => vEnc_len v) (fun v hv u hu => by (rw [List.mem_singleton.1 hv] at hu; rw [List.mem_singleton.1 hu]; rfl)) (HG2.out.up hu) r1 (by (have := HUL.out; simp; omega)) (Nat.le_trans HS9.out hu.size) ?_; intro q' m' d' w5 o5 b5 g5'; (have pu := Gath.push (y := y) Hb20.out HO.out HLT.out o3.out HG1.out HG2.out HG3.out HG4.out HG5.out HG6.out o1.out o2.out hu o5 g5'); have PU := Lib.hid pu; (have hc5 : w5.cell? ⟨b20, 0, none⟩ = some (.slice pv nv cv) := cell_of_one pu.2.2); (have hf5 : w5.frozen? ⟨b20, 0, none⟩ = false := free_of_one pu.2.2); clear hu r1 o5 b5 g5' pu hW1)
      refine ⟨PU.out.1 _ (fun k hk => ?_), PU.out.2.1⟩
      have := Hb20.out
      rcases hk with hk | hk <;> omega
    case done2 =>
      rintro O2 W12 hG hO2 hlt2 hdf2
      obtain ⟨⟨pb, nb, cb, ub, g1, g2, g3, g4, g5⟩, g6⟩ := hG.out
      have U12 : Hid (Up w W12) := Up.chgS GU2.out g6 (fun k hk => by subst hk; omega)
      have M2 := Lib.hid hdf2
      have b1x : W9.heap.size ≠ b20 := by have := Hb19.out; omega
      have M1' := Lib.hid ((g6.block _ (lt_of_block M1.out) b1x).trans M1.out)
      have b2x : b19 ≠ b20 := by have := HB20.out; omega
      have c19 := (g6.block _ (lt_of_block E1.out) b2x).trans E1.out
      have oa : OwnR W12 0 45 1 vEnc (.slice pv nv cv) us := E2.out.kept fun g hg => g6.block g (E2.out.lt g hg) (fun e => by subst e; exact OwnR.notOwn E2.out C20.out box_txt hg)
      have xa : TX W12 us ta := by
        have := E4.out
        rw [← HTA0.out] at this
        exact this.kept fun g ⟨cu, hg⟩ => g6.block g (lt_of_block hg) (fun e => by subst e; rw [C20.out] at hg; injection hg with hg; injection hg with _ h; exact box_type h)
      have xb : TX W12 ub tb := by rw [HTB0.out]; exact g4
      have ob := g2.less (Nat.zero_le _)
      have hua : us.length = la := by rw [xa.1, HLA.out]
      have hub : ub.length = la := by rw [xb.1, HLB.out]
      obtain ⟨ga, ca, cua, hva, -, -, -, -, -, -⟩ := oa.form2 (by rintro rfl; simp at hua; omega)
      obtain ⟨gb, cb', cub, hvb, -, -, -, -, -, -⟩ := ob.form2 (by rintro rfl; simp at hub; omega)
      rw [hva, hua] at oa
      rw [hvb, hub] at ob
      rw [hva, hua] at c19
      have c20 := g1
      rw [hvb, hub] at c20
      have OA := Lib.hid oa
      have OB := Lib.hid ob
      have TA := Lib.hid xa
      have TB := Lib.hid xb
      have HUA := Lib.hid hua
      have HUB := Lib.hid hub
      have D19 := Lib.hid c19
      have D20 := Lib.hid c20
      have k19 : W12.cell? ⟨b19, 0, none⟩ = some (.slice (some ⟨ga, 0, none⟩) la ca) := cell_of_one c19
      have UPP : ∀ W, Up W12 W → Up w ((W.putObj W11.heap.size (.deferred none)).putObj W9.heap.size (.deferred none)) := fun W hu => Up.chgS (Up.trans U12.out hu) ((Chg.putObj' (S := fun k => k = W11.heap.size ∨ k = W9.heap.size) W _ (.inl rfl)).trans (Chg.putObj' _ _ (.inr rfl))) (fun k hk => by have := HW9.out; have := HW11.out; rcases hk with rfl | rfl <;> omega)
      have UPH := Lib.hid UPP
      clear UPP
      have hT := HT2.out
      subst hT
      clear hG g1 g2 g3 g4 g5 g6 hdf2 hO2 WH WD HT2 b1x b2x c19 c20 oa xa ob xb hua hub hva hvb E1 E2 E4 M1 C20 G2 GU2 hlt e9 e11
      gi_wp2_with fail
      refine wpIn_label ?_
      gi_wp2_with fail
      clear k19
      gi_loopw [23] (fun v23 wq => ∃ k : Nat, k ≤ la ∧ v23 = .int .i64 ((k : Int) - 1) ∧ Hid (scanS ta tb la = scanS ta tb k) ∧ Hid (Up W12 wq)) (fun v23 _ => (intOf v23 + 1).toNat)
      case atStart => exact ⟨la, by omega, by go_num, rfl, Up.refl _⟩
      case round =>
        obtain ⟨k, hk, rfl, HK, HU⟩ := hrel
        rcases k with _ | r
        · have hr := HR.out
          rw [HK.out, scanS] at hr
          subst hr
          rw [show (((0 : Nat) : Int) - 1) = -1 from rfl]
          have mm2 := (HU.out.block _ (lt_of_block M2.out)).trans M2.out
          have mm1 := (HU.out.block _ (lt_of_block M1'.out)).trans M1'.out
          have MM2 := Lib.hid mm2
          have MM1 := Lib.hid mm1
          clear mm1 mm2
          gi_wp2_with fail
          exact postM_mark2 rfl MM2.out ((World.putObj_heap_other (by have := HNE.out; omega)).trans MM1.out) (results_tmp3 rfl _ _ _) ⟨_, _, rfl, Own.nil _ _, Own.nil _ _, UPH.out _ HU.out⟩
        rw [show (((r + 1 : Nat) : Int) - 1) = (r : Int) from by omega]
        have hrl : r < la := by omega
        have hra : r < us.length := by have := HUA.out; omega
        have hrb : r < ub.length := by have := HUB.out; omega
        have hta : r < ta.length := by have := HLA.out; omega
        have htb : r < tb.length := by have := HLB.out; omega
        have oa := TA.out.2 r hra hta
        have ob := TB.out.2 r hrb htb
        obtain ⟨q1, c1, hf1, m1, m1', s1⟩ := oa.form
        obtain ⟨q2, c2', hf2, m2', m2'', s2⟩ := ob.form
        have g1 := OA.out.at' (fun y _ => vEnc_len y) r hra 0 _ rfl
        have g2 := OB.out.at' (fun y _ => vEnc_len y) r hrb 0 _ rfl
        rw [hf1] at g1 oa
        rw [hf2] at g2 ob
        have hsc := scanS_succ ta tb r hta htb
        have hl1 := HMA.out _ (List.getElem_mem hta)
        have hl2 := HMB.out _ (List.getElem_mem htb)
        obtain ⟨t1, ht1⟩ : ∃ t, t = ta[r] := ⟨_, rfl⟩
        obtain ⟨t2, ht2⟩ : ∃ t, t = tb[r] := ⟨_, rfl⟩
        rw [← ht1] at g1 oa s1 hsc m1 hl1
        rw [← ht2] at g2 ob s2 hsc m2' hl2
        have hz := Lib.hid fun (z : UpW wr.drew) => (Up.trans HU.out (Up.trans (Up.refl wr).drew z.up) : Up W12 z.w)
        have k1 : ∀ z : UpW wr.drew, z.w.cell? ⟨ga, r, none⟩ = some (.slice q1 t1.length c1) := fun z => by simpa using cell_up g1 (hz.out z)
        have k2 : ∀ z : UpW wr.drew, z.w.cell? ⟨gb, r, none⟩ = some (.slice q2 t2.length c2') := fun z => by simpa using cell_up g2 (hz.out z)
        have j1 : ∀ z : UpW wr.drew, z.w.cell? ⟨b19, 0, none⟩ = some (.slice (some ⟨ga, 0, none⟩) la ca) := fun z => cell_of_one (((hz.out z).block _ (lt_of_block D19.out)).trans D19.out)
        have j2 : ∀ z : UpW wr.drew, z.w.cell? ⟨b20, 0, none⟩ = some (.slice (some ⟨gb, 0, none⟩) la cb') := fun z => cell_of_one (((hz.out z).block _ (lt_of_block D20.out)).trans D20.out)
        have SQ := Lib.hid fun W (hu : Up W12 W) => sequal_calls q1 q2 t1.length t2.length c1 c2' t1 t2 W rfl rfl hl1 m1 m1' m2' m2'' (s1.up hu) (s2.up hu)
        have OO1 := Lib.hid oa
        have OO2 := Lib.hid ob
        have HSC := Lib.hid hsc
        have d0 : decide ((0 : Int) ≤ (r : Int)) = true := by simp
        haveI := UpW.some_ wr.drew
        clear hsc oa ob s1 s2 g1 g2 ht1 ht2 hf1 hf2 m1 m1' m2' m2'' hra hrb hta htb hl1 hl2
        by_cases htt : t1 = t2
        case pos =>
          have HK2 : Hid (scanS ta tb la = scanS ta tb r) := by show _ = _; rw [HK.out, HSC.out, if_pos htt]
          rw [decide_eq_true htt] at SQ
          clear HSC HK htt
          gi_wp2_with fail
          refine wpIn_region_up wideF (by kernel_rfl) (by kernel_rfl) ?_
          repeat (first | ((with_reducible show wpQuiet _ _ _ _ (Oper.mk (some 88) _ _ _ _ _ :: _) _); with_reducible refine wpQuiet_step (fun K hK => ?_); go_simp; apply Exists.intro; refine ⟨fun _ => ?_, hK _ ?_⟩; (go_at_call 43; with_reducible exact Calls.quiet_up (SQ.out _ (hz.out _))); clear hK K) | (refine wpQuiet_step (fun K hK => ?_); go_simp; refine hK _ ?_; clear hK K))
          refine wpQuiet_nil ?_
          rintro w4 ⟨z, hz4⟩
          have U4 : Hid (Up W12 w4) := by show Up _ _; rw [hz4]; exact hz.out z
          clear hz4 hz k1 k2 j1 j2 SQ
          gi_wp2_with fail
          exact ⟨⟨r, by omega, by go_num, HK2, U4⟩, by simp [intOf]⟩
        have hr := HR.out
        rw [HK.out, HSC.out, if_neg htt] at hr
        subst hr
        rw [decide_eq_false htt] at SQ
        clear HSC HK htt HR
        gi_wp2_with fail
        refine wpIn_region_up wideF (by kernel_rfl) (by kernel_rfl) ?_
        repeat (first | ((with_reducible show wpQuiet _ _ _ _ (Oper.mk (some 88) _ _ _ _ _ :: _) _); with_reducible refine wpQuiet_step (fun K hK => ?_); go_simp; apply Exists.intro; refine ⟨fun _ => ?_, hK _ ?_⟩; (go_at_call 43; with_reducible exact Calls.quiet_up (SQ.out _ (hz.out _))); clear hK K) | (refine wpQuiet_step (fun K hK => ?_); go_simp; refine hK _ ?_; clear hK K))
        refine wpQuiet_nil ?_
        rintro w4 ⟨z, hz4⟩
        have U4 : Hid (Up W12 w4) := by show Up _ _; rw [hz4]; exact hz.out z
        have kk1 := k1 z
        have kk2 := k2 z
        have jj1 := j1 z
        have jj2 := j2 z
        rw [← hz4] at kk1 kk2 jj1 jj2
        clear hz4 hz k1 k2 j1 j2 SQ
        have hz := Lib.hid fun (z : UpW w4.drew) => (Up.trans (Up.refl w4).drew z.up : Up w4 z.w)
        have k1 : ∀ z : UpW w4.drew, z.w.cell? ⟨ga, r, none⟩ = some (.slice q1 t1.length c1) := fun z => cell_up kk1 (hz.out z)
        have k2 : ∀ z : UpW w4.drew, z.w.cell? ⟨gb, r, none⟩ = some (.slice q2 t2.length c2') := fun z => cell_up kk2 (hz.out z)
        have j1 : ∀ z : UpW w4.drew, z.w.cell? ⟨b19, 0, none⟩ = some (.slice (some ⟨ga, 0, none⟩) la ca) := fun z => cell_up jj1 (hz.out z)
        have j2 : ∀ z : UpW w4.drew, z.w.cell? ⟨b20, 0, none⟩ = some (.slice (some ⟨gb, 0, none⟩) la cb') := fun z => cell_up jj2 (hz.out z)
        haveI := UpW.some_ w4.drew
        clear kk1 kk2 jj1 jj2
        gi_wp2_with fail
        refine wpIn_region_up wideF (by kernel_rfl) (by kernel_rfl) ?_
        repeat (refine wpQuiet_step (fun K hK => ?_); go_simp; refine hK _ ?_; clear hK K)
        refine wpQuiet_nil ?_
        rintro w5 ⟨z, hz5⟩
        have u5 : Up W12 w5 := by rw [hz5]; exact Up.trans U4.out (hz.out z)
        have U5 := Lib.hid u5
        have mm2 := (u5.block _ (lt_of_block M2.out)).trans M2.out
        have mm1 := (u5.block _ (lt_of_block M1'.out)).trans M1'.out
        have MM2 := Lib.hid mm2
        have MM1 := Lib.hid mm1
        clear hz5 hz k1 k2 j1 j2 u5 mm1 mm2
        gi_wp2_with fail
        have mm := (World.putObj_heap_other (o := .deferred none) (show W9.heap.size ≠ W11.heap.size by have := HNE.out; omega)).trans MM1.out
        exact postM_mark2 rfl MM2.out mm (results_tmp3 rfl _ _ _) ⟨_, _, rfl, ((OO1.out.up U5.out).put MM2.out).put mm, ((OO2.out.up U5.out).put MM2.out).put mm, UPH.out _ U5.out⟩

theorem pcoll_calls (n i : Int) (x y : Sh) (p q : Option Addr) (m c m2 c2 : Nat) (ps qs : List Sm) (w : World) (hm : m = ps.length) (hm2 : m2 = qs.length) (hl : ∀ s ∈ ps, s.hash.length = 32) (hl2 : ∀ s ∈ qs, s.hash.length = 32) (hrow : RowAt w p 35 smCells ps) (hrow2 : RowAt w q 35 smCells qs) (hc : m ≤ c) (hcm : c ≤ maxLen) (hc2 : m2 ≤ c2) (hcm2 : c2 ≤ maxLen) (htab : Tabs w) :
    Calls Tryd.prog 19 #[.int .i64 n, .int .i64 i, .agg (shCells x), .agg (shCells y), .slice p m c, .slice q m2 c2] w (RetC w (collS n i x y ps qs)) := by
  rcases collS_cases n i x y ps qs with ⟨h1, hr⟩ | ⟨h1, h2, hr⟩ | ⟨h1, h2, h3, hr⟩ | ⟨h1, h2, h3, hr⟩
  · rw [hr]; exact pcoll_bad n i x y p q m c m2 c2 ps qs w hm hm2 hl hl2 hrow hrow2 hc hcm hc2 hcm2 htab (.inl h1)
  · rw [hr]; exact pcoll_bad n i x y p q m c m2 c2 ps qs w hm hm2 hl hl2 hrow hrow2 hc hcm hc2 hcm2 htab (.inr (.inl ⟨h1, h2⟩))
  · rw [hr]; exact pcoll_bad n i x y p q m c m2 c2 ps qs w hm hm2 hl hl2 hrow hrow2 hc hcm hc2 hcm2 htab (.inr (.inr ⟨h1, h2, h3⟩))
  · rw [hr]
    have hs : climbE n i x ps = 0 ∧ climbE n i y qs = 0 ∧ climbS n i x ps = climbS n i y qs := ⟨h1, h2, h3⟩
    obtain ⟨N, I, rfl, rfl, a1, a2, a3, a4, a5, a6, b4, b5, b6⟩ := both_ok h1 h2
    rw [Int.toNat_natCast, Int.toNat_natCast]
    exact pcoll_good N I x y p q m c m2 c2 ps qs w hm hm2 hl hl2 hrow hrow2 hc hcm hc2 hcm2 htab a1 a2 a3 a4 a5 a6 b4 b5 b6 hs

end Go.Proofs.YtobcfhninchnkaaDoor
