/- the reference's Commit. -/
import Derived.Test.YtmifpokafaiebaaDoorOv4
namespace Go.Proofs.YtmifpokafaiebaaDoor
open Go Go.RowKit
set_option linter.unusedVariables false
set_option maxRecDepth 100000

set_option maxHeartbeats 2000000 in
theorem rcommit_calls (a : OfA) (salt : List UInt8) (sp : Option Addr) (sc : Nat) (w : World) (h : LtsAt w a) (hsb : SB w sp salt) :
    Calls Tryd.prog 15 #[.agg (ofCells a).toArray, .slice sp salt.length sc] w (RetD w (cmtL a.o salt) (msgE a.o salt)) := by
  have MS := Lib.hid fun W (hu : Up w W) => rmessage_calls a salt sp sc W (h.up hu) (hsb.up hu)
  have hAs : Hid ((ofCells a).toArray.size = 6) := rfl
  have HOK : Hid (msgE a.o salt = 0 → (msgL a.o salt).length ≤ 2000) := fun hm => by
    have := msgE_ok hm
    rw [msgL, if_pos hm]; exact encMsg_len this.1 this.2
  have HCM : Hid (msgE a.o salt = 0 → cmtL a.o salt = Sha.tagged ofTag.data.toList (msgL a.o salt)) := fun hm => by
    rw [cmtL, if_pos hm, msgL, if_pos hm]; rfl
  have HCN : Hid (msgE a.o salt ≠ 0 → cmtL a.o salt = []) := fun hm => by rw [cmtL, if_neg hm]
  obtain ⟨CM, hCM⟩ : ∃ CM, CM = cmtL a.o salt := ⟨_, rfl⟩
  rw [← hCM] at HCM HCN ⊢
  obtain ⟨ee, hee⟩ : ∃ ee, ee = msgE a.o salt := ⟨_, rfl⟩
  rw [← hee] at MS HOK HCM HCN ⊢
  obtain ⟨M, hM⟩ : ∃ M, M = msgL a.o salt := ⟨_, rfl⟩
  rw [← hM] at MS HOK HCM
  obtain ⟨A, hA⟩ : ∃ A, A = (ofCells a).toArray := ⟨_, rfl⟩
  rw [← hA] at MS hAs ⊢
  obtain ⟨n, hn⟩ : ∃ n, n = salt.length := ⟨_, rfl⟩
  rw [← hn] at MS ⊢
  obtain ⟨mn, hmn⟩ : ∃ mn, mn = M.length := ⟨_, rfl⟩
  have HMN := Lib.hid hmn
  clear hA hee hn h hsb hM hmn hCM
  go_enter Tryd.func15, Tryd.ntmps15
  go_wp2_with ((with_reducible show wpList _ _ _ (Oper.mk _ (Op.load _ (Operand.tmp 2)) _ _ _ _ :: _) _ _); refine wpList_named ?_; intro W1 hW1; (have u1 : Up w W1 := by (rw [hW1]; exact (Up.refl w).alloc _)); (have xa : W1.heap[w.heap.size]? = some (.cells A 26 (0, 0)) := by (rw [hW1]; exact heap_new rfl)); have U1 := Lib.hid u1; have XA := Lib.hid xa; clear u1 xa hW1; refine wpList_load_arr rfl 26 (.tmp 2) rfl w.heap.size 0 rfl A _ (rangeAt_row XA.out) rfl rfl (by rw [hAs.out]; rfl) ?_)
  refine (MS.out W1 U1.out).mono ?_
  rintro e W2 ⟨pm, cm, rfl, sbm, hc1, hc2, u2⟩
  rw [← HMN.out] at hc1
  rw [← HMN.out]
  have U2 : Hid (Up w W2) := Up.trans U1.out u2
  have SBM := Lib.hid sbm
  have HC1 := Lib.hid hc1
  have HC2 := Lib.hid hc2
  clear u2 sbm hc1 hc2 MS XA U1 hAs
  by_cases h0 : ee = 0
  case neg =>
    have d0 : (ee != 0) = true := by rw [bne_iff_ne]; exact h0
    have eCM := HCN.out h0
    subst eCM
    clear h0
    go_wp2_with fail
    go_ret2
    exact ⟨none, 0, rfl, fun h => absurd rfl h, Nat.le_refl _, by unfold maxLen; omega, U2.out⟩
  subst h0
  have d0 : ((0 : Int) != 0) = false := by simp
  have hcm := HCM.out rfl
  have hTG := rtagged_calls ofTag pm cm M W2 (by decide) (by have := HOK.out rfl; omega) (by rw [← HMN.out]; exact HC1.out) HC2.out SBM.out
  obtain ⟨D, hD⟩ : ∃ D, D = Sha.tagged ofTag.data.toList M := ⟨_, rfl⟩
  have hDl : D.length = 32 := by rw [hD, Sha.tagged_length]
  rw [← hD] at hTG hcm
  have hcm2 := hcm.symm
  subst hcm2
  obtain ⟨E, hE⟩ : ∃ E, E = (u8s D).toArray := ⟨_, rfl⟩
  rw [← hE] at hTG
  rw [← HMN.out] at hTG
  have hEs : E.size = 32 := by rw [hE, List.size_toArray, u8s_length, hDl]
  have hEc : E.all (·.oneCell') = true := by
    rw [hE, Array.all_eq_true_iff_forall_mem]
    intro v hv
    exact u8s_one _ v (by simpa using hv)
  have HE := Lib.hid hE
  have HEs := Lib.hid hEs
  have HEc := Lib.hid hEc
  have HDL := Lib.hid hDl
  have TG := Lib.hid hTG
  clear hD hDl hTG hE hEs hEc HCM HCN HOK SBM HC1 HC2 HMN
  go_wp2_with fail
  refine TG.out.mono ?_
  rintro e w1 ⟨rfl, u1⟩
  have UX : Hid (Up w w1) := Up.trans U2.out u1
  clear u1 TG
  obtain ⟨bd, hbd⟩ : ∃ bd, bd = w1.heap.size := ⟨_, rfl⟩
  have HBD := Lib.hid hbd
  go_wp2_with (first | ((with_reducible show wpList _ _ _ (Oper.mk _ (Op.store _ (Operand.tmp 8) (Operand.tmp 19)) _ _ _ _ :: _) _ _); refine wpList_store_row rfl 47 (.tmp 8) (.tmp 19) rfl _ E rfl rfl 47 _ (heap_new rfl) (by rw [HEs.out]; rfl) (by rw [HEs.out]; rfl) HEc.out ?_; refine wpList_named ?_; intro W3 hW3; rw [← hbd]; have h3 : W3.heap[bd]? = some (.cells (u8s D).toArray 47 (0, 0)) := (by rw [hW3, hbd, ← HE.out]; exact setRow_heap _ _ _ _ _ _ (heap_new rfl)); have u3 : Up w1 W3 := (by rw [hW3]; exact below_setRow ((Up.refl w1).alloc _) (Nat.le_refl _) _); have H3 := Lib.hid h3; have U3 := Lib.hid u3; clear h3 u3 hW3 hbd) | (refine wpList_named ?_; intro W4 hW4; at_builtin; (have hu : Up W3 W4 := by (rw [hW4]; exact (Up.refl W3).alloc _)); (have ho : Own W4 W3.heap.size (.slice (some ⟨W3.heap.size, 0, none⟩) 0 0) [] := by (rw [hW4]; exact Own.empty W3)); have HU := Lib.hid hu; have HO := Lib.hid ho; (have SD : Hid (SB W4 (some ⟨bd, 0, none⟩) D) := (SB.of_digest H3.out).up hu); clear hW4 hu ho; refine wpList_app rfl (.tmp 20) (.tmp 21) rfl rfl W3.heap.size _ [] (some ⟨bd, 0, none⟩) 32 32 D rfl rfl HDL.out.symm HO.out SD.out (by simp; have := HDL.out; omega) HU.out.size ?_; intro v5 w5 o5 b5; rw [List.nil_append] at o5; have O5 := Lib.hid o5; have B5 := Lib.hid b5; clear o5 b5))
  obtain ⟨p5, c5, hv5, g1, g2, g3⟩ := O5.out.form
  rw [HDL.out] at hv5 g1
  subst hv5
  go_ret2
  exact ⟨p5, c5, by rw [HDL.out] <;> rfl, g3, by rw [HDL.out]; exact g1, g2, Up.trans UX.out (Up.trans U3.out (Below.trans HU.out B5.out))⟩

end Go.Proofs.YtmifpokafaiebaaDoor
