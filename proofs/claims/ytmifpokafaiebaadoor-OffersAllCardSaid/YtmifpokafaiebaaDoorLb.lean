/- the law OffersBinding. -/
import Derived.Test.YtmifpokafaiebaaDoorLbP
namespace Go.Proofs.YtmifpokafaiebaaDoor
open Go Go.RowKit
set_option linter.unusedVariables false
set_option maxRecDepth 100000

/-- an open in a block of its own -/
structure OpB (W : World) (b : Nat) (x : OpA) : Prop where
  blk : W.heap[b]? = some (.cells (opCells x).toArray 44 (0, 0))
theorem OpB.up {W W' : World} {b : Nat} {x : OpA} (h : OpB W b x) (hu : Up W W') : OpB W' b x := ⟨(hu.block _ (lt_of_block h.blk)).trans h.blk⟩
theorem OpB.off {W : World} {b : Nat} {x : OpA} (h : OpB W b x) : W.rangeAt b 0 (ofCells x.a).toArray.toList := rangeAt_part h.blk 0 _ fun j hj => by
  have hj6 : j < 6 := hj
  rw [Nat.zero_add]
  obtain rfl | rfl | rfl | rfl | rfl | rfl : j = 0 ∨ j = 1 ∨ j = 2 ∨ j = 3 ∨ j = 4 ∨ j = 5 := by omega
  all_goals rfl
theorem OpB.whole {W : World} {b : Nat} {x : OpA} (h : OpB W b x) : W.rangeAt b 0 (opCells x).toArray.toList := rangeAt_row h.blk
theorem OpB.salt {W : World} {b : Nat} {x : OpA} (h : OpB W b x) : W.cell? ⟨b, 6, none⟩ = some (.slice x.sp x.salt.length x.sc) := by rw [cell_of_row W b 6 _ _ _ h.blk]; rfl

set_option maxHeartbeats 8000000 in
theorem lequal_calls (x y : OpA) (w : World) (h1 : OpAt w x) (h2 : OpAt w y) (hl : x.a.o.lots.length ≤ 100000) :
    Calls Tryd.prog 23 #[.agg (opCells x).toArray, .agg (opCells y).toArray] w fun e w' => e = .returned (.bool (decide (x.a.o = y.a.o) && decide (x.salt = y.salt))) ∧ Up w w' := by
  have SM := Lib.hid fun W (hu : Up w W) => rsame_calls x.a y.a W (h1.lts.up hu) (h2.lts.up hu) hl
  have CX := Lib.hid fun W (hu : Up w W) => run_text_of W x.sp x.sc x.salt (h1.sb.up hu)
  have CY := Lib.hid fun W (hu : Up w W) => run_text_of W y.sp y.sc y.salt (h2.sb.up hu)
  have hbe := bs_eq x.salt y.salt
  have OX := Lib.hid fun (W : World) (b : Nat) (h : W.heap[b]? = some (.cells (opCells x).toArray 44 (0, 0))) => (⟨h⟩ : OpB W b x)
  have OY := Lib.hid fun (W : World) (b : Nat) (h : W.heap[b]? = some (.cells (opCells y).toArray 44 (0, 0))) => (⟨h⟩ : OpB W b y)
  have AXs : Hid ((ofCells x.a).toArray.size = 6) := rfl
  have AYs : Hid ((ofCells y.a).toArray.size = 6) := rfl
  obtain ⟨AX, hAX⟩ : ∃ A, A = (ofCells x.a).toArray := ⟨_, rfl⟩
  obtain ⟨AY, hAY⟩ : ∃ A, A = (ofCells y.a).toArray := ⟨_, rfl⟩
  obtain ⟨VX, hVX⟩ : ∃ A, A = (opCells x).toArray := ⟨_, rfl⟩
  obtain ⟨VY, hVY⟩ : ∃ A, A = (opCells y).toArray := ⟨_, rfl⟩
  obtain ⟨nx, hnx⟩ : ∃ n, n = x.salt.length := ⟨_, rfl⟩
  obtain ⟨ny, hny⟩ : ∃ n, n = y.salt.length := ⟨_, rfl⟩
  rw [← hAX, ← hAY] at SM
  rw [← hAX] at AXs
  rw [← hAY] at AYs
  have BX : Hid (∀ W b, OpB W b x → W.rangeAt b 0 AX.toList ∧ W.cell? ⟨b, 6, none⟩ = some (.slice x.sp nx x.sc)) := fun W b h => ⟨by rw [hAX]; exact h.off, by rw [hnx]; exact h.salt⟩
  have BY : Hid (∀ W b, OpB W b y → W.rangeAt b 0 AY.toList ∧ W.cell? ⟨b, 6, none⟩ = some (.slice y.sp ny y.sc)) := fun W b h => ⟨by rw [hAY]; exact h.off, by rw [hny]; exact h.salt⟩
  rw [← hnx] at CX
  rw [← hny] at CY
  rw [← hVX] at OX ⊢
  rw [← hVY] at OY ⊢
  obtain ⟨b1, hb1⟩ : ∃ b, b = decide (x.a.o = y.a.o) := ⟨_, rfl⟩
  obtain ⟨b2, hb2⟩ : ∃ b, b = decide (x.salt = y.salt) := ⟨_, rfl⟩
  rw [← hb1] at SM ⊢
  rw [← hb2] at hbe ⊢
  clear hAX hAY hVX hVY hnx hny hb1 hb2 h1 h2 hl
  go_enter Tryd.func23, Tryd.ntmps23
  obtain ⟨bx, hbx⟩ : ∃ b, b = w.heap.size := ⟨_, rfl⟩
  have HBX := Lib.hid hbx
  go_wp2_with (first | ((with_reducible show wpList _ _ _ (Oper.mk _ (Op.load _ (Operand.tmp 5)) _ _ _ _ :: _) _ _); refine wpList_named ?_; intro W1 hW1; (have u1 : Up w W1 := by (rw [hW1]; exact ((Up.refl w).alloc _).alloc _)); (have ox1 := OX.out W1 bx (by (rw [hW1]; exact (heap_old (by simp [HBX.out])).trans (heap_new HBX.out)))); (have oy1 := OY.out W1 (bx + 1) (by (rw [hW1]; exact heap_new (by simp [HBX.out])))); rw [← hbx]; have U1 := Lib.hid u1; have OX1 := Lib.hid ox1; have OY1 := Lib.hid oy1; clear hW1 u1 ox1 oy1 hbx; refine wpList_load_arr rfl 26 (.tmp 5) rfl bx 0 rfl AX _ (BX.out _ _ OX1.out).1 rfl rfl (by rw [AXs.out]; rfl) ?_) | ((with_reducible show wpList _ _ _ (Oper.mk _ (Op.load _ (Operand.tmp 7)) _ _ _ _ :: _) _ _); refine wpList_load_arr rfl 26 (.tmp 7) rfl (bx + 1) 0 rfl AY _ (BY.out _ _ OY1.out).1 rfl rfl (by rw [AYs.out]; rfl) ?_))
  refine (SM.out W1 U1.out).mono ?_
  rintro e W2 ⟨rfl, u2⟩
  have U2 : Hid (Up w W2) := Up.trans U1.out u2
  have sx := (BX.out _ _ (OX1.out.up u2)).2
  have sy := (BY.out _ _ (OY1.out.up u2)).2
  have cx := CX.out W2 U2.out
  have cy := CY.out W2 U2.out
  clear u2 SM
  cases b1
  · go_wp2_with fail
    go_ret
    exact ⟨rfl, U2.out⟩
  · go_wp2_with fail
    go_ret
    exact ⟨rfl, U2.out⟩

set_option maxHeartbeats 16000000 in
theorem lawBind_calls (x y : OpA) (w : World) (h1 : OpAt w x) (h2 : OpAt w y) (t0 : Tab0 w) (t1 : Tab w) :
    Calls Tryd.prog 5 #[.agg (opCells x).toArray, .agg (opCells y).toArray] w fun e w' => e = .returned (.bool true) ∧ Up w w' := by
  have HT : Hid (Tabs w) := ⟨t0, t1⟩
  have SN := Lib.hid fun W (hu : Up w W) => sane44_calls W (HT.out.up hu)
  have SX := Lib.hid fun W => rsmall_calls x.a x.sp x.salt.length x.sc W
  have SY := Lib.hid fun W => rsmall_calls y.a y.sp y.salt.length y.sc W
  have MX := Lib.hid fun W (hu : Up w W) => omessage_calls x.a x.salt x.sp x.sc W (h1.lts.up hu) (h1.sb.up hu)
  have MY := Lib.hid fun W (hu : Up w W) => omessage_calls y.a y.salt y.sp y.sc W (h2.lts.up hu) (h2.sb.up hu)
  have KX := Lib.hid fun W (hu : Up w W) => ocommit_calls x.a x.salt x.sp x.sc W (h1.lts.up hu) (h1.sb.up hu) (HT.out.up hu)
  have KY := Lib.hid fun W (hu : Up w W) => ocommit_calls y.a y.salt y.sp y.sc W (h2.lts.up hu) (h2.sb.up hu) (HT.out.up hu)
  have EQ : Hid (smallB x.a.o x.salt.length = true → ∀ W, Up w W → Calls Tryd.prog 23 #[.agg (opCells x).toArray, .agg (opCells y).toArray] W fun e w' => e = .returned (.bool (decide (x.a.o = y.a.o) && decide (x.salt = y.salt))) ∧ Up W w') := fun hs W hu => lequal_calls x y W (h1.up hu) (h2.up hu) (by unfold smallB at hs; simp only [Bool.and_eq_true, decide_eq_true_eq] at hs; omega)
  have PL : Hid (msgE x.a.o x.salt = 0 → msgE y.a.o y.salt = 0 → (cmtL x.a.o x.salt).length = 32 ∧ (cmtL y.a.o y.salt).length = 32 ∧ (msgL x.a.o x.salt).length ≤ 2000 ∧ (msgL y.a.o y.salt).length ≤ 2000 ∧ Sha.tagged ofTag.data.toList (msgL x.a.o x.salt) = cmtL x.a.o x.salt ∧ Sha.tagged ofTag.data.toList (msgL y.a.o y.salt) = cmtL y.a.o y.salt ∧ (msgL x.a.o x.salt = msgL y.a.o y.salt ↔ (decide (x.a.o = y.a.o) && decide (x.salt = y.salt)) = true) ∧ (msgL x.a.o x.salt = msgL y.a.o y.salt → cmtL x.a.o x.salt = cmtL y.a.o y.salt)) := fun hx hy => by
    have ox := msgE_ok hx
    have oy := msgE_ok hy
    unfold cmtL msgL
    simp only [if_pos hx, if_pos hy]
    refine ⟨cmtB_length _ _, cmtB_length _ _, encMsg_len ox.1 ox.2, encMsg_len oy.1 oy.2, rfl, rfl, ⟨fun e => ?_, fun e => ?_⟩, fun e => by unfold cmtB; rw [e]⟩
    · obtain ⟨e1, e2⟩ := encMsg_inj ox.1 oy.1 ox.2 oy.2 e
      rw [e1, e2]; simp
    · simp only [Bool.and_eq_true, decide_eq_true_eq] at e
      rw [e.1, e.2]
  have OX := Lib.hid fun (W : World) (b : Nat) (h : W.heap[b]? = some (.cells (opCells x).toArray 44 (0, 0))) => (⟨h⟩ : OpB W b x)
  have OY := Lib.hid fun (W : World) (b : Nat) (h : W.heap[b]? = some (.cells (opCells y).toArray 44 (0, 0))) => (⟨h⟩ : OpB W b y)
  have AXs : Hid ((ofCells x.a).toArray.size = 6) := rfl
  have AYs : Hid ((ofCells y.a).toArray.size = 6) := rfl
  have VXs : Hid ((opCells x).toArray.size = 7) := rfl
  have VYs : Hid ((opCells y).toArray.size = 7) := rfl
  obtain ⟨AX, hAX⟩ : ∃ A, A = (ofCells x.a).toArray := ⟨_, rfl⟩
  obtain ⟨AY, hAY⟩ : ∃ A, A = (ofCells y.a).toArray := ⟨_, rfl⟩
  obtain ⟨VX, hVX⟩ : ∃ A, A = (opCells x).toArray := ⟨_, rfl⟩
  obtain ⟨VY, hVY⟩ : ∃ A, A = (opCells y).toArray := ⟨_, rfl⟩
  obtain ⟨nx, hnx⟩ : ∃ n, n = x.salt.length := ⟨_, rfl⟩
  obtain ⟨ny, hny⟩ : ∃ n, n = y.salt.length := ⟨_, rfl⟩
  obtain ⟨Mx, hMx⟩ : ∃ n, n = msgL x.a.o x.salt := ⟨_, rfl⟩
  obtain ⟨My, hMy⟩ : ∃ n, n = msgL y.a.o y.salt := ⟨_, rfl⟩
  obtain ⟨Dx, hDx⟩ : ∃ n, n = cmtL x.a.o x.salt := ⟨_, rfl⟩
  obtain ⟨Dy, hDy⟩ : ∃ n, n = cmtL y.a.o y.salt := ⟨_, rfl⟩
  obtain ⟨ex, hex⟩ : ∃ n, n = msgE x.a.o x.salt := ⟨_, rfl⟩
  obtain ⟨ey, hey⟩ : ∃ n, n = msgE y.a.o y.salt := ⟨_, rfl⟩
  obtain ⟨bq, hbq⟩ : ∃ b, b = (decide (x.a.o = y.a.o) && decide (x.salt = y.salt)) := ⟨_, rfl⟩
  have BX : Hid (∀ W b, OpB W b x → W.rangeAt b 0 AX.toList ∧ W.cell? ⟨b, 6, none⟩ = some (.slice x.sp nx x.sc) ∧ W.rangeAt b 0 VX.toList) := fun W b h => ⟨by rw [hAX]; exact h.off, by rw [hnx]; exact h.salt, by rw [hVX]; exact h.whole⟩
  have BY : Hid (∀ W b, OpB W b y → W.rangeAt b 0 AY.toList ∧ W.cell? ⟨b, 6, none⟩ = some (.slice y.sp ny y.sc) ∧ W.rangeAt b 0 VY.toList) := fun W b h => ⟨by rw [hAY]; exact h.off, by rw [hny]; exact h.salt, by rw [hVY]; exact h.whole⟩
  rw [← hAX, ← hnx] at SX
  rw [← hAY, ← hny] at SY
  rw [← hAX, ← hnx, ← hMx, ← hex] at MX
  rw [← hAY, ← hny, ← hMy, ← hey] at MY
  rw [← hAX, ← hnx, ← hDx, ← hex] at KX
  rw [← hAY, ← hny, ← hDy, ← hey] at KY
  rw [← hMx, ← hMy, ← hDx, ← hDy, ← hex, ← hey, ← hbq] at PL
  rw [← hnx, ← hVX, ← hVY, ← hbq] at EQ
  rw [← hAX] at AXs
  rw [← hAY] at AYs
  rw [← hVX] at OX VXs ⊢
  rw [← hVY] at OY VYs ⊢
  obtain ⟨sx, hsx⟩ : ∃ b, b = smallB x.a.o nx := ⟨_, rfl⟩
  obtain ⟨sy, hsy⟩ : ∃ b, b = smallB y.a.o ny := ⟨_, rfl⟩
  rw [← hsx] at SX EQ
  rw [← hsy] at SY
  clear hAX hAY hVX hVY hnx hny hMx hMy hDx hDy hex hey hbq hsx hsy h1 h2 t0 t1
  go_enter Tryd.func5, Tryd.ntmps5
  obtain ⟨bx, hbx⟩ : ∃ b, b = w.heap.size := ⟨_, rfl⟩
  go_wp2_with fail
  refine calls_named0 ?_
  intro W1 hW1
  have u1 : Up w W1 := by rw [hW1]; exact ((Up.refl w).alloc _).alloc _
  have ox1 := OX.out W1 bx (by rw [hW1]; exact (heap_old (by simp [hbx])).trans (heap_new hbx))
  have oy1 := OY.out W1 (bx + 1) (by rw [hW1]; exact heap_new (by simp [hbx]))
  rw [← hbx]
  have U1 := Lib.hid u1
  have OX_1 := Lib.hid ox1
  have OY_1 := Lib.hid oy1
  clear hW1 u1 ox1 oy1 hbx OX OY
  refine (SN.out W1 U1.out).mono ?_
  rintro e W2 ⟨rfl, u2⟩
  have U2 : Hid (Up w W2) := Up.trans U1.out u2
  have OX_2 := Lib.hid (OX_1.out.up u2)
  have OY_2 := Lib.hid (OY_1.out.up u2)
  clear SN
  have sx2 := (BX.out _ _ OX_2.out).2.1
  have sy2 := (BY.out _ _ OY_2.out).2.1
  clear u2 OX_1 OY_1
  go_wp2_with (first | ((with_reducible show wpList _ _ _ (Oper.mk _ (Op.load _ (Operand.tmp 15)) _ _ _ _ :: _) _ _); refine wpList_load_arr rfl 26 (.tmp 15) rfl bx 0 rfl AX _ (BX.out _ _ OX_2.out).1 rfl rfl (by rw [AXs.out]; rfl) ?_))
  refine (SX.out W2).mono ?_
  rintro e W3 ⟨rfl, u3⟩
  have U3 : Hid (Up w W3) := Up.trans U2.out u3
  have OX_3 := Lib.hid (OX_2.out.up u3)
  have OY_3 := Lib.hid (OY_2.out.up u3)
  clear SX
  have sx3 := (BX.out _ _ OX_3.out).2.1
  have sy3 := (BY.out _ _ OY_3.out).2.1
  clear u3 OX_2 OY_2 sx2 sy2
  cases sx
  case false =>
    go_wp2_with fail
    go_ret
    exact ⟨rfl, U3.out⟩
  go_wp2_with (first | ((with_reducible show wpList _ _ _ (Oper.mk _ (Op.load _ (Operand.tmp 22)) _ _ _ _ :: _) _ _); refine wpList_load_arrG (by rfl) 26 (.tmp 22) rfl (bx + 1) 0 rfl AY _ (BY.out _ _ OY_3.out).1 rfl rfl (by rw [AYs.out]; rfl) ?_))
  refine (SY.out W3).mono ?_
  rintro e W4 ⟨rfl, u4⟩
  have U4 : Hid (Up w W4) := Up.trans U3.out u4
  have OX_4 := Lib.hid (OX_3.out.up u4)
  have OY_4 := Lib.hid (OY_3.out.up u4)
  clear SY
  have sx4 := (BX.out _ _ OX_4.out).2.1
  have sy4 := (BY.out _ _ OY_4.out).2.1
  clear u4 OX_3 OY_3 sx3 sy3
  cases sy
  case false =>
    go_wp2_with fail
    go_ret
    exact ⟨rfl, U4.out⟩
  go_wp2_with (first | ((with_reducible show wpList _ _ _ (Oper.mk _ (Op.load _ (Operand.tmp 30)) _ _ _ _ :: _) _ _); refine wpList_load_arr rfl 26 (.tmp 30) rfl bx 0 rfl AX _ (BX.out _ _ OX_4.out).1 rfl rfl (by rw [AXs.out]; rfl) ?_))
  refine (MX.out W4 U4.out).mono ?_
  rintro e W5 ⟨pa, ca, rfl, sb, g1, g2, u5⟩
  have U5 : Hid (Up w W5) := Up.trans U4.out u5
  have OX_5 := Lib.hid (OX_4.out.up u5)
  have OY_5 := Lib.hid (OY_4.out.up u5)
  have SBa_5 := Lib.hid sb
  have Ga := Lib.hid (And.intro g1 g2)
  clear sb g1 g2
  have sx5 := (BX.out _ _ OX_5.out).2.1
  have sy5 := (BY.out _ _ OY_5.out).2.1
  clear u5 OX_4 OY_4 sx4 sy4
  go_wp2_with (first | ((with_reducible show wpList _ _ _ (Oper.mk _ (Op.load _ (Operand.tmp 38)) _ _ _ _ :: _) _ _); refine wpList_load_arr rfl 26 (.tmp 38) rfl (bx + 1) 0 rfl AY _ (BY.out _ _ OY_5.out).1 rfl rfl (by rw [AYs.out]; rfl) ?_))
  refine (MY.out W5 U5.out).mono ?_
  rintro e W6 ⟨pb, cb, rfl, sb, g1, g2, u6⟩
  have U6 : Hid (Up w W6) := Up.trans U5.out u6
  have OX_6 := Lib.hid (OX_5.out.up u6)
  have OY_6 := Lib.hid (OY_5.out.up u6)
  have SBa_6 := Lib.hid (SBa_5.out.up u6)
  have SBb_6 := Lib.hid sb
  have Gb := Lib.hid (And.intro g1 g2)
  clear sb g1 g2 SBa_5
  have sx6 := (BX.out _ _ OX_6.out).2.1
  have sy6 := (BY.out _ _ OY_6.out).2.1
  clear u6 OX_5 OY_5 sx5 sy5
  go_wp2_with (first | ((with_reducible show wpList _ _ _ (Oper.mk _ (Op.load _ (Operand.tmp 46)) _ _ _ _ :: _) _ _); refine wpList_load_arr rfl 26 (.tmp 46) rfl bx 0 rfl AX _ (BX.out _ _ OX_6.out).1 rfl rfl (by rw [AXs.out]; rfl) ?_))
  refine (KX.out W6 U6.out).mono ?_
  rintro e W7 ⟨pc, cc, rfl, sb, g1, g2, u7⟩
  have U7 : Hid (Up w W7) := Up.trans U6.out u7
  have OX_7 := Lib.hid (OX_6.out.up u7)
  have OY_7 := Lib.hid (OY_6.out.up u7)
  have SBa_7 := Lib.hid (SBa_6.out.up u7)
  have SBb_7 := Lib.hid (SBb_6.out.up u7)
  have SBc_7 := Lib.hid sb
  have Gc := Lib.hid (And.intro g1 g2)
  clear sb g1 g2 SBa_6 SBb_6
  have sx7 := (BX.out _ _ OX_7.out).2.1
  have sy7 := (BY.out _ _ OY_7.out).2.1
  clear u7 OX_6 OY_6 sx6 sy6
  go_wp2_with (first | ((with_reducible show wpList _ _ _ (Oper.mk _ (Op.load _ (Operand.tmp 54)) _ _ _ _ :: _) _ _); refine wpList_load_arr rfl 26 (.tmp 54) rfl (bx + 1) 0 rfl AY _ (BY.out _ _ OY_7.out).1 rfl rfl (by rw [AYs.out]; rfl) ?_))
  refine (KY.out W7 U7.out).mono ?_
  rintro e W8 ⟨pd, cd, rfl, sb, g1, g2, u8⟩
  have U8 : Hid (Up w W8) := Up.trans U7.out u8
  have OX_8 := Lib.hid (OX_7.out.up u8)
  have OY_8 := Lib.hid (OY_7.out.up u8)
  have SBa_8 := Lib.hid (SBa_7.out.up u8)
  have SBb_8 := Lib.hid (SBb_7.out.up u8)
  have SBc_8 := Lib.hid (SBc_7.out.up u8)
  have SBd_8 := Lib.hid sb
  have Gd := Lib.hid (And.intro g1 g2)
  clear sb g1 g2 SBa_7 SBb_7 SBc_7
  have sx8 := (BX.out _ _ OX_8.out).2.1
  have sy8 := (BY.out _ _ OY_8.out).2.1
  clear u8 OX_7 OY_7 sx7 sy7
  have dx : (ex != ex) = false := by simp
  have dy : (ey != ey) = false := by simp
  by_cases h0 : ex = 0
  case neg =>
    have d0 : (ex != 0) = true := by rw [bne_iff_ne]; exact h0
    clear h0
    go_wp2_with fail
    go_ret
    exact ⟨rfl, U8.out⟩
  subst h0
  by_cases h0 : ey = 0
  case neg =>
    have d0 : (ey != 0) = true := by rw [bne_iff_ne]; exact h0
    clear h0 dx
    go_wp2_with fail
    go_ret
    exact ⟨rfl, U8.out⟩
  subst h0
  have Q := Lib.hid (PL.out rfl rfl)
  have EQ2 := Lib.hid (EQ.out (by first | rfl | trivial))
  clear PL EQ dx dy
  go_wp2_with (first | ((with_reducible show wpList _ _ _ (Oper.mk _ (Op.load _ (Operand.tmp 2)) _ _ _ _ :: _) _ _); refine wpList_load_arr rfl 44 (.tmp 2) rfl bx 0 rfl VX _ (BX.out _ _ OX_8.out).2.2 rfl rfl (by rw [VXs.out]; rfl) ?_) | ((with_reducible show wpList _ _ _ (Oper.mk _ (Op.load _ (Operand.tmp 3)) _ _ _ _ :: _) _ _); refine wpList_load_arr rfl 44 (.tmp 3) rfl (bx + 1) 0 rfl VY _ (BY.out _ _ OY_8.out).2.2 rfl rfl (by rw [VYs.out]; rfl) ?_))
  refine (EQ2.out W8 U8.out).mono ?_
  rintro e W9 ⟨rfl, u9⟩
  have U9 : Hid (Up w W9) := Up.trans U8.out u9
  have OX_9 := Lib.hid (OX_8.out.up u9)
  have OY_9 := Lib.hid (OY_8.out.up u9)
  have SBa_9 := Lib.hid (SBa_8.out.up u9)
  have SBb_9 := Lib.hid (SBb_8.out.up u9)
  have SBc_9 := Lib.hid (SBc_8.out.up u9)
  have SBd_9 := Lib.hid (SBd_8.out.up u9)
  have sx9 := (BX.out _ _ OX_9.out).2.1
  have sy9 := (BY.out _ _ OY_9.out).2.1
  clear u9 OX_8 OY_8 sx8 sy8
  have ta := run_text_of W9 pa ca Mx SBa_9.out
  have tb := run_text_of W9 pb cb My SBb_9.out
  have tc := run_text_of W9 pc cc Dx SBc_9.out
  have td := run_text_of W9 pd cd Dy SBd_9.out
  have eM := bs_eq Mx My
  have eD := bs_eq Dx Dy
  cases bq
  case true =>
    have e1 : Mx = My := Q.out.2.2.2.2.2.2.1.2 rfl
    rw [decide_eq_true e1] at eM
    rw [decide_eq_true (Q.out.2.2.2.2.2.2.2 e1)] at eD
    clear Q e1
    go_wp2_with fail
    go_ret
    exact ⟨rfl, U9.out⟩
  have e1 : Mx ≠ My := fun e => by have := Q.out.2.2.2.2.2.2.1.1 e; cases this
  rw [decide_eq_false e1] at eM
  by_cases hD : Dx = Dy
  case neg =>
    rw [decide_eq_false hD] at eD
    clear Q e1 hD
    go_wp2_with fail
    go_ret
    exact ⟨rfl, U9.out⟩
  rw [decide_eq_true hD] at eD
  have TA := tagged_calls ofTag pa ca Mx W9 (by decide) Q.out.2.2.1 Ga.out.1 Ga.out.2 SBa_9.out (HT.out.up U9.out).1 (HT.out.up U9.out).2
  have TB := Lib.hid fun W (hu : Up W9 W) => tagged_calls ofTag pb cb My W (by decide) Q.out.2.2.2.1 Gb.out.1 Gb.out.2 (SBb_9.out.up hu) (HT.out.up (Up.trans U9.out hu)).1 (HT.out.up (Up.trans U9.out hu)).2
  have re := fun W => run_eql_digest Dx Dy W Q.out.1 Q.out.2.1
  rw [Q.out.2.2.2.2.1] at TA
  rw [Q.out.2.2.2.2.2.1] at TB
  simp only [decide_eq_true hD] at re
  obtain ⟨E1, hE1⟩ : ∃ E, E = (u8s Dx).toArray := ⟨_, rfl⟩
  obtain ⟨E2, hE2⟩ : ∃ E, E = (u8s Dy).toArray := ⟨_, rfl⟩
  rw [← hE1] at TA
  rw [← hE2] at TB
  simp only [← hE1, ← hE2] at re
  have TA2 := Lib.hid TA
  clear hE1 hE2 Q hD e1 TA
  go_wp2_with fail
  refine TA2.out.mono ?_
  rintro e W10 ⟨rfl, u10⟩
  have U10 : Hid (Up W9 W10) := u10
  clear u10 TA2
  go_wp2_with fail
  refine (TB.out W10 U10.out).mono ?_
  rintro e W11 ⟨rfl, u11⟩
  have U11 : Hid (Up w W11) := Up.trans U9.out (Up.trans U10.out u11)
  clear u11 TB
  go_wp2_with fail
  go_ret
  exact ⟨rfl, U11.out⟩

end Go.Proofs.YtmifpokafaiebaaDoor
