/- the law OffersSpec. -/
import Derived.Test.YtmifpokafaiebaaDoorOv5
namespace Go.Proofs.YtmifpokafaiebaaDoor
open Go Go.RowKit
set_option linter.unusedVariables false
set_option maxRecDepth 100000

set_option maxHeartbeats 16000000 in
theorem lawSpec_calls (x : OfA) (l : List UInt8) (p : Option Addr) (cap : Nat) (w : World) (hx : LtsAt w x) (hsb : SB w p l) (hlc : l.length ≤ cap) (hcm : cap ≤ maxLen) (t0 : Tab0 w) (t1 : Tab w) :
    Calls Tryd.prog 3 #[.agg (ofCells x).toArray, .slice p l.length cap] w fun e w' => e = .returned (.bool true) ∧ Up w w' := by
  have HT : Hid (Tabs w) := ⟨t0, t1⟩
  have SN := Lib.hid fun W (hu : Up w W) => sane44_calls W (HT.out.up hu)
  have SX := Lib.hid fun W => rsmall_calls x p l.length cap W
  have MX := Lib.hid fun W (hu : Up w W) => omessage_calls x l p cap W (hx.up hu) (hsb.up hu)
  have MY := Lib.hid fun W (hu : Up w W) => rmessage_calls x l p cap W (hx.up hu) (hsb.up hu)
  have KX := Lib.hid fun W (hu : Up w W) => ocommit_calls x l p cap W (hx.up hu) (hsb.up hu) (HT.out.up hu)
  have KY := Lib.hid fun W (hu : Up w W) => rcommit_calls x l p cap W (hx.up hu) (hsb.up hu)
  have CX := Lib.hid fun W (hu : Up w W) => ofCheck_calls x W (hx.up hu)
  have CY := Lib.hid fun W (hu : Up w W) => rcheck44_calls x W (hx.up hu)
  have AXs : Hid ((ofCells x).toArray.size = 6) := rfl
  obtain ⟨AX, hAX⟩ : ∃ A, A = (ofCells x).toArray := ⟨_, rfl⟩
  obtain ⟨nx, hnx⟩ : ∃ n, n = l.length := ⟨_, rfl⟩
  obtain ⟨Mx, hMx⟩ : ∃ n, n = msgL x.o l := ⟨_, rfl⟩
  obtain ⟨Dx, hDx⟩ : ∃ n, n = cmtL x.o l := ⟨_, rfl⟩
  obtain ⟨ex, hex⟩ : ∃ n, n = msgE x.o l := ⟨_, rfl⟩
  obtain ⟨ck, hck⟩ : ∃ n, n = chkO x.o := ⟨_, rfl⟩
  obtain ⟨sx, hsx⟩ : ∃ b, b = smallB x.o nx := ⟨_, rfl⟩
  rw [← hAX, ← hnx, ← hsx] at SX
  rw [← hAX, ← hnx, ← hMx, ← hex] at MX MY
  rw [← hAX, ← hnx, ← hDx, ← hex] at KX KY
  rw [← hAX, ← hck] at CX CY
  rw [← hAX] at AXs ⊢
  rw [← hnx]
  clear hAX hnx hMx hDx hex hck hsx hx hsb hlc hcm t0 t1 HT
  go_enter Tryd.func3, Tryd.ntmps3
  obtain ⟨bx, hbx⟩ : ∃ b, b = w.heap.size := ⟨_, rfl⟩
  go_wp2_with fail
  refine calls_named0 ?_
  intro W1 hW1
  have u1 : Up w W1 := by rw [hW1]; exact (Up.refl w).alloc _
  have x1 : W1.heap[bx]? = some (.cells AX 26 (0, 0)) := by rw [hW1]; exact heap_new hbx
  rw [← hbx]
  have U1 := Lib.hid u1
  have X_1 := Lib.hid x1
  clear hW1 u1 x1 hbx
  refine (SN.out W1 U1.out).mono ?_
  rintro e W2 ⟨rfl, u2⟩
  have U2 : Hid (Up w W2) := Up.trans U1.out u2
  have X_2 := Lib.hid ((u2.block _ (lt_of_block X_1.out)).trans X_1.out)
  clear SN
  clear u2 X_1
  go_wp2_with (first | ((with_reducible show wpList _ _ _ (Oper.mk _ (Op.load _ (Operand.tmp 2)) _ _ _ _ :: _) _ _); refine wpList_load_arr rfl 26 (.tmp 2) rfl bx 0 rfl AX _ (rangeAt_row X_2.out) rfl rfl (by rw [AXs.out]; rfl) ?_))
  refine (SX.out W2).mono ?_
  rintro e W3 ⟨rfl, u3⟩
  have U3 : Hid (Up w W3) := Up.trans U2.out u3
  have X_3 := Lib.hid ((u3.block _ (lt_of_block X_2.out)).trans X_2.out)
  clear SX
  clear u3 X_2
  cases sx
  case false =>
    go_wp2_with fail
    go_ret
    exact ⟨rfl, U3.out⟩
  go_wp2_with (first | ((with_reducible show wpList _ _ _ (Oper.mk _ (Op.load _ (Operand.tmp 2)) _ _ _ _ :: _) _ _); refine wpList_load_arr rfl 26 (.tmp 2) rfl bx 0 rfl AX _ (rangeAt_row X_3.out) rfl rfl (by rw [AXs.out]; rfl) ?_))
  refine (MX.out W3 U3.out).mono ?_
  rintro e W4 ⟨pa, ca, rfl, sb, g1, g2, u4⟩
  have U4 : Hid (Up w W4) := Up.trans U3.out u4
  have X_4 := Lib.hid ((u4.block _ (lt_of_block X_3.out)).trans X_3.out)
  have SBa_4 := Lib.hid sb
  clear sb g1 g2
  clear u4 X_3
  go_wp2_with (first | ((with_reducible show wpList _ _ _ (Oper.mk _ (Op.load _ (Operand.tmp 2)) _ _ _ _ :: _) _ _); refine wpList_load_arr rfl 26 (.tmp 2) rfl bx 0 rfl AX _ (rangeAt_row X_4.out) rfl rfl (by rw [AXs.out]; rfl) ?_))
  refine (MY.out W4 U4.out).mono ?_
  rintro e W5 ⟨pb, cb, rfl, sb, g1, g2, u5⟩
  have U5 : Hid (Up w W5) := Up.trans U4.out u5
  have X_5 := Lib.hid ((u5.block _ (lt_of_block X_4.out)).trans X_4.out)
  have SBa_5 := Lib.hid (SBa_4.out.up u5)
  have SBb_5 := Lib.hid sb
  clear sb g1 g2 SBa_4
  clear u5 X_4
  go_wp2_with (first | ((with_reducible show wpList _ _ _ (Oper.mk _ (Op.load _ (Operand.tmp 2)) _ _ _ _ :: _) _ _); refine wpList_load_arr rfl 26 (.tmp 2) rfl bx 0 rfl AX _ (rangeAt_row X_5.out) rfl rfl (by rw [AXs.out]; rfl) ?_))
  refine (KX.out W5 U5.out).mono ?_
  rintro e W6 ⟨pc, cc, rfl, sb, g1, g2, u6⟩
  have U6 : Hid (Up w W6) := Up.trans U5.out u6
  have X_6 := Lib.hid ((u6.block _ (lt_of_block X_5.out)).trans X_5.out)
  have SBa_6 := Lib.hid (SBa_5.out.up u6)
  have SBb_6 := Lib.hid (SBb_5.out.up u6)
  have SBc_6 := Lib.hid sb
  clear sb g1 g2 SBa_5 SBb_5
  clear u6 X_5
  go_wp2_with (first | ((with_reducible show wpList _ _ _ (Oper.mk _ (Op.load _ (Operand.tmp 2)) _ _ _ _ :: _) _ _); refine wpList_load_arr rfl 26 (.tmp 2) rfl bx 0 rfl AX _ (rangeAt_row X_6.out) rfl rfl (by rw [AXs.out]; rfl) ?_))
  refine (KY.out W6 U6.out).mono ?_
  rintro e W7 ⟨pd, cd, rfl, sb, g1, g2, u7⟩
  have U7 : Hid (Up w W7) := Up.trans U6.out u7
  have X_7 := Lib.hid ((u7.block _ (lt_of_block X_6.out)).trans X_6.out)
  have SBa_7 := Lib.hid (SBa_6.out.up u7)
  have SBb_7 := Lib.hid (SBb_6.out.up u7)
  have SBc_7 := Lib.hid (SBc_6.out.up u7)
  have SBd_7 := Lib.hid sb
  clear sb g1 g2 SBa_6 SBb_6 SBc_6
  clear u7 X_6
  clear MX MY KX KY
  go_wp2_with fail
  refine wp_region_script_at [(true, 0), (true, 2), (false, 1), (false, 3), (true, 4), (true, 5), (true, 6), (true, 7), (true, 8), (true, 9), (true, 10), (true, 11), (true, 12), (true, 13), (true, 14), (true, 15), (true, 16), (true, 17), (true, 18), (true, 19), (true, 20), (true, 21), (true, 22), (true, 23), (true, 24), (true, 25), (true, 26), (true, 27), (true, 28), (true, 29)] (by kernel_rfl) (by kernel_rfl) (fun _ _ d _ _ h => by cases d <;> exact h) ?_
  intro W U hW
  have VW : Hid (Up W7 W) := U
  clear U hW
  refine ⟨fun W' => Up W7 W', VW.out, ?_⟩
  haveI : Nonempty (InC (fun W' => Up W7 W')) := ⟨⟨W, VW.out⟩⟩
  have ka : ∀ y : InC (fun W' => Up W7 W'), (convert 27 9 (.slice pa Mx.length ca)).run Tryd.prog y.w = .ok (.string (bsOf Mx)) y.w := fun y => run_text_of y.w pa ca Mx (SBa_7.out.up y.h)
  have kb : ∀ y : InC (fun W' => Up W7 W'), (convert 27 9 (.slice pb Mx.length cb)).run Tryd.prog y.w = .ok (.string (bsOf Mx)) y.w := fun y => run_text_of y.w pb cb Mx (SBb_7.out.up y.h)
  have kc : ∀ y : InC (fun W' => Up W7 W'), (convert 27 9 (.slice pc Dx.length cc)).run Tryd.prog y.w = .ok (.string (bsOf Dx)) y.w := fun y => run_text_of y.w pc cc Dx (SBc_7.out.up y.h)
  have kd : ∀ y : InC (fun W' => Up W7 W'), (convert 27 9 (.slice pd Dx.length cd)).run Tryd.prog y.w = .ok (.string (bsOf Dx)) y.w := fun y => run_text_of y.w pd cd Dx (SBd_7.out.up y.h)
  have e1 : (ck == ck) = true := by simp
  have e2 : (ex == ex) = true := by simp
  simp only [pick2, List.getElem?_cons_zero, List.getElem?_cons_succ]
  repeat (first | ((with_reducible show wpScript _ _ _ _ ((true, Oper.mk _ (Op.load _ (Operand.tmp 2)) _ _ _ _) :: _) _ _); refine wpScript_load_arr (by rfl) 26 (.tmp 2) rfl bx 0 rfl AX _ (fun w' hw' => by (obtain ⟨z, rfl⟩ := hw'; exact rangeAt_row ((z.h.block _ (lt_of_block X_7.out)).trans X_7.out))) rfl rfl (by rw [AXs.out]; rfl) ?_) | (with_reducible refine wpScript_still (fun K hK => ?_); go_simp; with_reducible refine hK _ ?_; clear hK K))
  refine wpScript_chain (fun K hK => ?_)
  go_simp
  refine (CX.out W (Up.trans U7.out VW.out)).mono ?_
  rintro e w1 ⟨rfl, u1⟩
  have V1 : Hid (Up W7 w1) := Up.trans VW.out u1
  refine hK _ _ (inC V1.out) ?_
  clear hK K u1
  refine wpScript_chain (fun K hK => ?_)
  go_simp
  refine (CY.out w1 (Up.trans U7.out V1.out)).mono ?_
  rintro e w2 ⟨rfl, u2⟩
  have V2 : Hid (Up W7 w2) := Up.trans V1.out u2
  refine hK _ _ (inC V2.out) ?_
  clear hK K u2
  repeat (with_reducible refine wpScript_still (fun K hK => ?_); go_simp; with_reducible refine hK _ ?_; clear hK K)
  refine wpScript_nil ?_
  have UF : Hid (Up w w2) := Up.trans U7.out V2.out
  clear ka kb kc kd
  go_wp2_with fail
  go_ret
  exact ⟨rfl, UF.out⟩

end Go.Proofs.YtmifpokafaiebaaDoor
