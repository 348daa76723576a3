/- the law's examples: sane. -/
import Derived.Test.YtmifpokafaiebaaDoorOgC
namespace Go.Proofs.YtmifpokafaiebaaDoor
open Go Go.RowKit
set_option linter.unusedVariables false
set_option maxRecDepth 100000

theorem enc_long (o : Of) (salt : List UInt8) (hs : salt.length = 16) : 16 < (encMsg o salt).length := by
  have h : 16 ≤ (Enc.encT salt).length := by unfold Enc.encT; simp [hs]
  rw [encMsg, Enc.encL, List.length_cons, List.length_append]
  simp only [List.flatten_append, List.length_append, List.flatten_cons]
  omega
theorem ocheck_big (a : OfA) (w : World) (h : 8 < a.o.lots.length) : Calls Tryd.prog 16 #[.agg (ofCells a).toArray] w fun e w' => e = .returned (.int .i64 2) ∧ Up w w' := by
  obtain ⟨o, p, c⟩ := a
  unfold ofCells
  simp only at h ⊢
  obtain ⟨m, hm⟩ : ∃ m, m = o.lots.length := ⟨_, rfl⟩
  rw [← hm] at h ⊢
  have d : decide ((8 : Int) < (m : Int)) = true := by simp; omega
  clear hm h
  go_enter Tryd.func16, Tryd.ntmps16
  go_wp2
  go_ret
  exact ⟨rfl, (Up.refl w).alloc _⟩
theorem SB.zeros {w : World} {b n : Nat} {t : TypeId} (h : w.heap[b]? = some (.cells (Array.replicate n (.int .u8 0)) t (0, 0))) : SB w (some ⟨b, 0, none⟩) (List.replicate n 0) := fun _ => ⟨b, 0, rfl, fun i hi => by
  rw [Nat.zero_add, cell_of_row w b i _ _ _ h]
  have : i < n := by simpa using hi
  simp [this]⟩
theorem SB.take {w : World} {p : Option Addr} {l : List UInt8} (h : SB w p l) (n : Nat) : SB w p (l.take n) := fun hne => by
  obtain ⟨b, o, e, hB⟩ := h (by rintro rfl; simp at hne)
  exact ⟨b, o, e, hB.take n⟩

def Z16 : Array Value := #[.int .u8 0, .int .u8 0, .int .u8 0, .int .u8 0, .int .u8 0, .int .u8 0, .int .u8 0, .int .u8 0, .int .u8 0, .int .u8 0, .int .u8 0, .int .u8 0, .int .u8 0, .int .u8 0, .int .u8 0, .int .u8 0]
def Z31 : Array Value := #[.int .u8 0, .int .u8 0, .int .u8 0, .int .u8 0, .int .u8 0, .int .u8 0, .int .u8 0, .int .u8 0, .int .u8 0, .int .u8 0, .int .u8 0, .int .u8 0, .int .u8 0, .int .u8 0, .int .u8 0, .int .u8 0, .int .u8 0, .int .u8 0, .int .u8 0, .int .u8 0, .int .u8 0, .int .u8 0, .int .u8 0, .int .u8 0, .int .u8 0, .int .u8 0, .int .u8 0, .int .u8 0, .int .u8 0, .int .u8 0, .int .u8 0]
def Z9 : Array Value := #[.int .i64 0, .int .i64 0, .int .i64 0, .int .i64 0, .int .i64 0, .int .i64 0, .int .i64 0, .int .i64 0, .int .i64 0, .int .i64 0, .int .i64 0, .int .i64 0, .int .i64 0, .int .i64 0, .int .i64 0, .int .i64 0, .int .i64 0, .int .i64 0]
theorem mk16 (w : World) : (Instr.makeSlice 27 (.int .i64 16) (.int .i64 16)).run Tryd.prog w = .ok (.slice (some ⟨w.heap.size, 0, none⟩) 16 16) (w.alloc (.cells Z16 5 (0, 0))) := by kernel_rfl
theorem mk31 (w : World) : (Instr.makeSlice 27 (.int .i64 31) (.int .i64 31)).run Tryd.prog w = .ok (.slice (some ⟨w.heap.size, 0, none⟩) 31 31) (w.alloc (.cells Z31 5 (0, 0))) := by kernel_rfl
theorem mk9 (w : World) : (Instr.makeSlice 24 (.int .i64 9) (.int .i64 9)).run Tryd.prog w = .ok (.slice (some ⟨w.heap.size, 0, none⟩) 9 9) (w.alloc (.cells Z9 61 (0, 0))) := by kernel_rfl

theorem exS_at {W : World} {D : List UInt8} {p : Option Addr} {c : Nat} (h : SB W p D) (hl : D.length = 32) (h1 : 32 ≤ c) (h2 : c ≤ maxLen) : ∀ s ∈ exS D p c, SlAt W s := by
  intro s hs
  simp only [exS, List.mem_cons, List.not_mem_nil, or_false] at hs
  rcases hs with rfl | rfl | rfl <;> exact ⟨h, by show D.length ≤ c; omega, h2⟩

theorem ex_small {A : List OfA} (h : A.map OfA.o = [exO 7 2]) : ∀ a ∈ A, a.o.lots.length ≤ 100000 := fun a ha => by
  have : a.o ∈ A.map OfA.o := List.mem_map_of_mem ha
  rw [h, List.mem_singleton] at this
  rw [this]; show 2 ≤ 100000; omega

set_option maxHeartbeats 16000000 in
theorem sane44_calls (w : World) (ht : Tabs w) : Calls Tryd.prog 10 #[] w fun e w' => e = .returned (.bool true) ∧ Up w w' := by
  have HT := Lib.hid ht
  obtain ⟨D, hD⟩ : ∃ D, D = cmtB (exO 7 2) z16 := ⟨_, rfl⟩
  obtain ⟨M, hM⟩ : ∃ M, M = encMsg (exO 7 2) z16 := ⟨_, rfl⟩
  have hDl : D.length = 32 := by rw [hD]; exact cmtB_length _ _
  obtain ⟨mn, hmn⟩ : ∃ mn, mn = M.length := ⟨_, rfl⟩
  have hmM : msgL (exO 7 2) z16 = M := by rw [msgL, if_pos ex_msg, hM]
  have hcM : cmtL (exO 7 2) z16 = D := by rw [cmtL, if_pos ex_msg, hD]
  have hTD : Sha.tagged ofTag.data.toList M = D := by rw [hD, hM]; rfl
  have hML : mn ≤ 2000 := by rw [hmn, hM]; exact encMsg_len (msgE_ok ex_msg).1 rfl
  have hM16 : 16 < mn := by rw [hmn, hM]; exact enc_long _ _ rfl
  have HDL := Lib.hid hDl
  have HMN := Lib.hid hmn
  have HMM := Lib.hid hmM
  have HCM := Lib.hid hcM
  have HTD := Lib.hid hTD
  have HML := Lib.hid hML
  have HM16 := Lib.hid hM16
  have hmk := mk16
  clear ht hD hM hDl hmn hmM hcM hTD hML hM16
  go_enter Tryd.func10, Tryd.ntmps10
  go_wp2_with fail
  obtain ⟨bz, hbz⟩ : ∃ bz, bz = w.heap.size := ⟨_, rfl⟩
  rw [← hbz]
  refine calls_named0 ?_
  intro W1 hW1
  have u1 : Up w W1 := by rw [hW1]; exact (Up.refl w).alloc _
  have s1 : SB W1 (some ⟨bz, 0, none⟩) z16 := SB.zeros (n := 16) (by rw [hW1]; exact heap_new hbz)
  have V1 := Lib.hid u1
  have S1 := Lib.hid s1
  have HBZ := Lib.hid hbz
  clear u1 s1 hW1 hbz hmk
  refine (example_calls 7 2 W1).mono ?_
  rintro e W2 ⟨b1, rfl, l1, u2⟩
  have V2 : Hid (Up w W2) := Up.trans V1.out u2
  have S2 := Lib.hid (S1.out.up u2)
  have L1 := Lib.hid l1
  clear u2 l1 S1
  go_wp2_with fail
  refine (omessage_calls (exA 7 2 b1) z16 (some ⟨bz, 0, none⟩) 16 W2 L1.out S2.out).mono ?_
  rintro e W3 ⟨pm, cm, he, sm, c1, c2, u3⟩
  rw [show msgE (exA 7 2 b1).o z16 = 0 from ex_msg] at he
  rw [show msgL (exA 7 2 b1).o z16 = M from HMM.out] at he sm c1
  rw [← HMN.out] at he c1
  subst he
  have V3 : Hid (Up w W3) := Up.trans V2.out u3
  have S3 := Lib.hid (S2.out.up u3)
  have SM3 := Lib.hid sm
  have C1 := Lib.hid c1
  have C2 := Lib.hid c2
  clear u3 sm c1 c2 S2 L1
  go_wp2_with fail
  refine (example_calls 7 2 W3).mono ?_
  rintro e W4 ⟨b2, rfl, l2, u4⟩
  have V4 : Hid (Up w W4) := Up.trans V3.out u4
  have S4 := Lib.hid (S3.out.up u4)
  have SM4 := Lib.hid (SM3.out.up u4)
  have L2 := Lib.hid l2
  clear u4 l2 S3 SM3
  go_wp2_with fail
  refine (ocommit_calls (exA 7 2 b2) z16 (some ⟨bz, 0, none⟩) 16 W4 L2.out S4.out (HT.out.up V4.out)).mono ?_
  rintro e W5 ⟨pd, cd, he, sd, c3, c4, u5⟩
  rw [show msgE (exA 7 2 b2).o z16 = 0 from ex_msg] at he
  rw [show cmtL (exA 7 2 b2).o z16 = D from HCM.out] at he sd c3
  rw [HDL.out] at he c3
  subst he
  have V5 : Hid (Up w W5) := Up.trans V4.out u5
  have S5 := Lib.hid (S4.out.up u5)
  have SM5 := Lib.hid (SM4.out.up u5)
  have SD5 := Lib.hid sd
  have C3 := Lib.hid c3
  have C4 := Lib.hid c4
  clear u5 sd c3 c4 S4 SM4 L2
  go_wp2_with fail
  have S_5 := S5
  have SM_5 := SM5
  have SD_5 := SD5
  clear S5 SM5 SD5
  refine wp_region_script_at [(true, 1), (true, 2), (false, 0), (false, 3), (true, 4), (true, 5), (true, 6), (true, 7), (true, 8)] (by kernel_rfl) (by kernel_rfl) (fun _ _ d _ _ h => by cases d <;> exact h) ?_
  intro W6 u6 hW6
  have V6 : Hid (Up w W6) := Up.trans V5.out u6
  have S_6 := Lib.hid (S_5.out.up u6)
  have SM_6 := Lib.hid (SM_5.out.up u6)
  have SD_6 := Lib.hid (SD_5.out.up u6)
  clear S_5 SM_5 SD_5
  clear u6
  have Z6 : Hid (Up W6 W6) := Up.refl _
  refine ⟨fun W' => Up W6 W', Z6.out, ?_⟩
  haveI : Nonempty (InC (fun W' => Up W6 W')) := ⟨⟨W6, Z6.out⟩⟩
  simp only [pick2, List.getElem?_cons_zero, List.getElem?_cons_succ]
  (with_reducible refine wpScript_still (fun K hK => ?_); go_simp; with_reducible refine hK _ ?_; clear hK K)
  (with_reducible refine wpScript_still (fun K hK => ?_); go_simp; with_reducible refine hK _ ?_; clear hK K)
  refine wpScript_chain (fun K hK => ?_)
  go_simp
  refine (example_calls 7 2 W6).mono ?_
  rintro e W7 ⟨b3, rfl, l7, u7⟩
  have V7 : Hid (Up w W7) := Up.trans V6.out u7
  have S_7 := Lib.hid (S_6.out.up u7)
  have SM_7 := Lib.hid (SM_6.out.up u7)
  have SD_7 := Lib.hid (SD_6.out.up u7)
  have Z7 : Hid (Up W6 W7) := Up.trans Z6.out u7
  clear S_6 SM_6 SD_6
  have L7 := Lib.hid l7
  clear l7 u7
  refine hK _ _ (inC Z7.out) ?_
  clear hK K
  refine wpScript_chain (fun K hK => ?_)
  go_simp
  refine (omessage_calls (exA 7 2 b3) z15 (some ⟨bz, 0, none⟩) 16 W7 L7.out (S_7.out.take 15)).mono ?_
  rintro e W8 ⟨pg, cg, he, -, -, -, u8⟩
  rw [show msgE (exA 7 2 b3).o z15 = 440 from ex_short, show msgL (exA 7 2 b3).o z15 = [] from by unfold msgL; rw [show msgE (exA 7 2 b3).o z15 = 440 from ex_short, if_neg (by decide)]] at he
  subst he
  have V8 : Hid (Up w W8) := Up.trans V7.out u8
  have S_8 := Lib.hid (S_7.out.up u8)
  have SM_8 := Lib.hid (SM_7.out.up u8)
  have SD_8 := Lib.hid (SD_7.out.up u8)
  have Z8 : Hid (Up W6 W8) := Up.trans Z7.out u8
  clear S_7 SM_7 SD_7
  clear u8 L7
  refine hK _ _ (inC Z8.out) ?_
  clear hK K
  repeat (with_reducible refine wpScript_still (fun K hK => ?_); go_simp; with_reducible refine hK _ ?_; clear hK K)
  refine wpScript_nil ?_
  go_wp2_with fail
  obtain ⟨bS, hbS⟩ : ∃ b, b = W8.heap.size := ⟨_, rfl⟩
  rw [← hbS]
  refine calls_named0 ?_
  intro W9 hW9
  have u9 : Up W8 W9 := by rw [hW9]; exact (Up.refl W8).alloc _
  have r9 : RowAt W9 (some ⟨bS, 0, none⟩) 2 slCells (exS D pd cd) := rowAt_block (D := #[.int .i64 3, .slice pd 32 cd, .int .i64 2, .slice pd 32 cd, .int .i64 2, .slice pd 32 cd]) (fun x _ => slCells_len x) (by simp [exS, slCells, fl, HDL.out]) (by rw [hW9]; exact heap_new hbS)
  have V9 : Hid (Up w W9) := Up.trans V8.out u9
  have S_9 := Lib.hid (S_8.out.up u9)
  have SM_9 := Lib.hid (SM_8.out.up u9)
  have SD_9 := Lib.hid (SD_8.out.up u9)
  clear S_8 SM_8 SD_8
  have RS_9 := Lib.hid r9
  clear u9 r9 hW9 hbS
  refine (example_calls 7 2 W9).mono ?_
  rintro e W10 ⟨b4, rfl, l10, u10⟩
  have V10 : Hid (Up w W10) := Up.trans V9.out u10
  have S_10 := Lib.hid (S_9.out.up u10)
  have SM_10 := Lib.hid (SM_9.out.up u10)
  have SD_10 := Lib.hid (SD_9.out.up u10)
  have RS_10 := Lib.hid (RS_9.out.kept2 u10)
  clear S_9 SM_9 SD_9 RS_9
  have L10 := Lib.hid l10
  clear l10 u10
  go_wp2_with fail
  obtain ⟨bt, hbt⟩ : ∃ b, b = W10.heap.size := ⟨_, rfl⟩
  rw [← hbt]
  refine calls_named0 ?_
  intro W11 hW11
  obtain ⟨x1, hx1⟩ : ∃ x1 : OpA, x1 = ⟨exA 7 2 b4, z16, some ⟨bz, 0, none⟩, 16⟩ := ⟨_, rfl⟩
  have u11 : Up W10 W11 := by rw [hW11]; exact ((Up.refl W10).alloc _).alloc _
  have rx : RowAt W11 (some ⟨bt + 1, 0, none⟩) 7 opCells [x1] := rowAt_block (D := #[.int .i64 7, .int .i64 2, .int .i64 (-5), .int .i64 3, .int .i64 9, .slice (some ⟨b4, 0, none⟩) 2 2, .slice (some ⟨bz, 0, none⟩) 16 16]) (fun x _ => opCells_len x) (by rw [hx1]; rfl) (by rw [hW11]; exact heap_new (by simp [hbt]))
  have xt : W11.heap[bt]? = some (.cells #[.int .i64 7, .int .i64 2, .int .i64 (-5), .int .i64 3, .int .i64 9, .slice (some ⟨b4, 0, none⟩) 2 2, .slice (some ⟨bz, 0, none⟩) 16 16] 44 (0, 0)) := by rw [hW11]; exact (heap_old (by simp [hbt])).trans (heap_new hbt)
  have ox : OpAt W10 x1 := by rw [hx1]; exact ⟨L10.out, S_10.out, Nat.le_refl _, by show 16 ≤ maxLen; unfold maxLen; omega⟩
  have hk : opKey x1 = some (2, D) := by rw [hx1]; unfold opKey; rw [if_pos (show msgE (exA 7 2 b4).o z16 = 0 from ex_msg), ← HCM.out, cmtL, if_pos ex_msg]; rfl
  have hxo : x1.a.o = exO 7 2 := by rw [hx1]; rfl
  have OX_10 := Lib.hid ox
  have HK := Lib.hid hk
  have HXO := Lib.hid hxo
  have V11 : Hid (Up w W11) := Up.trans V10.out u11
  have S_11 := Lib.hid (S_10.out.up u11)
  have SM_11 := Lib.hid (SM_10.out.up u11)
  have SD_11 := Lib.hid (SD_10.out.up u11)
  have RS_11 := Lib.hid (RS_10.out.kept2 u11)
  have OX_11 := Lib.hid (OX_10.out.up u11)
  clear S_10 SM_10 SD_10 RS_10 OX_10
  have RX := Lib.hid rx
  have XT := Lib.hid xt
  have HX1 := Lib.hid hx1
  clear u11 rx xt hW11 hbt hx1 ox hk hxo L10
  refine (reveal_calls (some ⟨bS, 0, none⟩) (some ⟨bt + 1, 0, none⟩) 3 3 1 1 (exS D pd cd) [x1] W11 rfl rfl (Nat.le_refl _) (by unfold maxLen; omega) (Nat.le_refl _) (by unfold maxLen; omega) RS_11.out (exS_at SD_11.out HDL.out C3.out C4.out) RX.out (fun x hx => by rw [List.mem_singleton.1 hx]; exact OX_11.out) (HT.out.up V11.out)).mono ?_
  intro e W12 hR
  rw [(ex_rev1 D pd cd x1 HDL.out HK.out).1, (ex_rev1 D pd cd x1 HDL.out HK.out).2, exS_e D pd cd HDL.out [x1] (by simp), HXO.out] at hR
  obtain ⟨p1, k1, q1, j1, A1, he, r1⟩ := hR.lit (n := 1) (k := 2) rfl rfl
  subst he
  have u12 := r1.up
  have V12 : Hid (Up w W12) := Up.trans V11.out u12
  have S_12 := Lib.hid (S_11.out.up u12)
  have SM_12 := Lib.hid (SM_11.out.up u12)
  have SD_12 := Lib.hid (SD_11.out.up u12)
  have RS_12 := Lib.hid (RS_11.out.kept2 u12)
  have OX_12 := Lib.hid (OX_11.out.up u12)
  clear S_11 SM_11 SD_11 RS_11 OX_11
  have R1_12 := Lib.hid r1
  have XT_12 := Lib.hid ((u12.block _ (lt_of_block XT.out)).trans XT.out)
  clear hR r1 u12 XT RX
  go_wp2_with fail
  refine wp_region_script_at [(true, 0), (true, 1), (true, 2), (true, 3), (false, 4), (true, 5), (false, 6), (false, 7), (true, 8), (true, 9), (true, 10), (true, 11), (true, 12), (true, 13), (true, 14)] (by kernel_rfl) (by kernel_rfl) (fun _ _ d _ _ h => by cases d <;> exact h) ?_
  intro W13 u13 hW13
  have V13 : Hid (Up w W13) := Up.trans V12.out u13
  have S_13 := Lib.hid (S_12.out.up u13)
  have SM_13 := Lib.hid (SM_12.out.up u13)
  have SD_13 := Lib.hid (SD_12.out.up u13)
  have RS_13 := Lib.hid (RS_12.out.kept2 u13)
  have OX_13 := Lib.hid (OX_12.out.up u13)
  have R1_13 := Lib.hid (R1_12.out.kept u13)
  clear S_12 SM_12 SD_12 RS_12 OX_12 R1_12
  clear u13
  have Z13 : Hid (Up W13 W13) := Up.refl _
  refine ⟨fun W' => Up W13 W', Z13.out, ?_⟩
  haveI : Nonempty (InC (fun W' => Up W13 W')) := ⟨⟨W13, Z13.out⟩⟩
  simp only [pick2, List.getElem?_cons_zero, List.getElem?_cons_succ]
  have XT_13 : Hid (W13.heap[bt]? = some (.cells #[.int .i64 7, .int .i64 2, .int .i64 (-5), .int .i64 3, .int .i64 9, .slice (some ⟨b4, 0, none⟩) 2 2, .slice (some ⟨bz, 0, none⟩) 16 16] 44 (0, 0))) := by show _ = _; rw [hW13]; exact XT_12.out
  clear hW13
  repeat (first | ((with_reducible show wpScript _ _ _ _ ((true, Oper.mk _ (Op.load _ (Operand.tmp 9)) _ _ _ _) :: _) _ _); refine wpScript_load_arr (by rfl) 44 (.tmp 9) rfl bt 0 rfl #[.int .i64 7, .int .i64 2, .int .i64 (-5), .int .i64 3, .int .i64 9, .slice (some ⟨b4, 0, none⟩) 2 2, .slice (some ⟨bz, 0, none⟩) 16 16] _ (fun w' hw' => by (obtain ⟨z, rfl⟩ := hw'; exact rangeAt_row ((z.h.block _ (lt_of_block XT_13.out)).trans XT_13.out))) rfl rfl (by rfl) ?_) | (with_reducible refine wpScript_still (fun K hK => ?_); go_simp; with_reducible refine hK _ ?_; clear hK K))
  refine wpScript_chain (fun K hK => ?_)
  go_simp
  refine (example_calls 8 2 W13).mono ?_
  rintro e W14 ⟨b5, rfl, l14, u14⟩
  have V14 : Hid (Up w W14) := Up.trans V13.out u14
  have S_14 := Lib.hid (S_13.out.up u14)
  have SM_14 := Lib.hid (SM_13.out.up u14)
  have SD_14 := Lib.hid (SD_13.out.up u14)
  have RS_14 := Lib.hid (RS_13.out.kept2 u14)
  have OX_14 := Lib.hid (OX_13.out.up u14)
  have R1_14 := Lib.hid (R1_13.out.kept u14)
  have Z14 : Hid (Up W13 W14) := Up.trans Z13.out u14
  clear S_13 SM_13 SD_13 RS_13 OX_13 R1_13
  have L14 := Lib.hid l14
  clear l14 u14
  refine hK _ _ (inC Z14.out) ?_
  clear hK K
  (with_reducible refine wpScript_still (fun K hK => ?_); go_simp; with_reducible refine hK _ ?_; clear hK K)
  refine wpScript_chain (fun K hK => ?_)
  go_simp
  obtain ⟨bu, hbu⟩ : ∃ b, b = W14.heap.size := ⟨_, rfl⟩
  rw [← hbu]
  obtain ⟨D28, hD28⟩ : ∃ D : Array Value, D = #[.int .i64 7, .int .i64 2, .int .i64 (-5), .int .i64 3, .int .i64 9, .slice (some ⟨b4, 0, none⟩) 2 2, .slice (some ⟨bz, 0, none⟩) 16 16, .int .i64 7, .int .i64 2, .int .i64 (-5), .int .i64 3, .int .i64 9, .slice (some ⟨b4, 0, none⟩) 2 2, .slice (some ⟨bz, 0, none⟩) 16 16, .int .i64 7, .int .i64 2, .int .i64 (-5), .int .i64 3, .int .i64 9, .slice (some ⟨b4, 0, none⟩) 2 2, .slice (some ⟨bz, 0, none⟩) 16 16, .int .i64 8, .int .i64 2, .int .i64 (-5), .int .i64 3, .int .i64 9, .slice (some ⟨b5, 0, none⟩) 2 2, .slice none 0 0] := ⟨_, rfl⟩
  rw [← hD28]
  obtain ⟨W15, hW15⟩ : ∃ W15, W15 = W14.alloc (.cells D28 44 (0, 0)) := ⟨_, rfl⟩
  rw [← hW15]
  have u15 : Up W14 W15 := by rw [hW15]; exact (Up.refl W14).alloc _
  obtain ⟨y1, hy1⟩ : ∃ y1 : OpA, y1 = ⟨exA 8 2 b5, [], none, 0⟩ := ⟨_, rfl⟩
  have ry : RowAt W15 (some ⟨bu, 0, none⟩) 7 opCells [x1, x1, x1, y1] := rowAt_block (D := D28) (fun x _ => opCells_len x) (by rw [hD28, HX1.out, hy1]; rfl) (by rw [hW15]; exact heap_new hbu)
  have oy : OpAt W14 y1 := by rw [hy1]; exact ⟨L14.out, fun h => absurd rfl h, Nat.le_refl _, by show 0 ≤ maxLen; omega⟩
  have hky : opKey y1 = none := by rw [hy1]; unfold opKey; rw [if_neg (by rw [show msgE (exA 8 2 b5).o [] = 440 from ex_nosalt]; decide)]
  have OY_14 := Lib.hid oy
  have HKY := Lib.hid hky
  have V15 : Hid (Up w W15) := Up.trans V14.out u15
  have S_15 := Lib.hid (S_14.out.up u15)
  have SM_15 := Lib.hid (SM_14.out.up u15)
  have SD_15 := Lib.hid (SD_14.out.up u15)
  have RS_15 := Lib.hid (RS_14.out.kept2 u15)
  have OX_15 := Lib.hid (OX_14.out.up u15)
  have R1_15 := Lib.hid (R1_14.out.kept u15)
  have OY_15 := Lib.hid (OY_14.out.up u15)
  have Z15 : Hid (Up W13 W15) := Up.trans Z14.out u15
  clear S_14 SM_14 SD_14 RS_14 OX_14 R1_14 OY_14
  have RY := Lib.hid ry
  clear ry hy1 oy hky L14 hW15 hbu hD28
  refine hK _ _ (inC Z15.out) ?_
  clear hK K u15
  refine wpScript_chain (fun K hK => ?_)
  go_simp
  refine (reveal_calls (some ⟨bS, 0, none⟩) (some ⟨bu, 0, none⟩) 3 3 4 4 (exS D pd cd) [x1, x1, x1, y1] W15 rfl rfl (Nat.le_refl _) (by unfold maxLen; omega) (Nat.le_refl _) (by unfold maxLen; omega) RS_15.out (exS_at SD_15.out HDL.out C3.out C4.out) RY.out (fun x hx => by
    simp only [List.mem_cons, List.not_mem_nil, or_false] at hx
    rcases hx with rfl | rfl | rfl | rfl
    · exact OX_15.out
    · exact OX_15.out
    · exact OX_15.out
    · exact OY_15.out) (HT.out.up V15.out)).mono ?_
  intro e W16 hR
  rw [(ex_rev2 D pd cd x1 y1 HDL.out HK.out HKY.out).1, (ex_rev2 D pd cd x1 y1 HDL.out HK.out HKY.out).2, exS_e D pd cd HDL.out [x1, x1, x1, y1] (by simp), HXO.out] at hR
  obtain ⟨p2, k2, q2, j2, A2, he, r2⟩ := hR.lit (n := 1) (k := 1) rfl rfl
  subst he
  have u16 := r2.up
  have V16 : Hid (Up w W16) := Up.trans V15.out u16
  have S_16 := Lib.hid (S_15.out.up u16)
  have SM_16 := Lib.hid (SM_15.out.up u16)
  have SD_16 := Lib.hid (SD_15.out.up u16)
  have RS_16 := Lib.hid (RS_15.out.kept2 u16)
  have OX_16 := Lib.hid (OX_15.out.up u16)
  have R1_16 := Lib.hid (R1_15.out.kept u16)
  have OY_16 := Lib.hid (OY_15.out.up u16)
  have Z16 : Hid (Up W13 W16) := Up.trans Z15.out u16
  clear S_15 SM_15 SD_15 RS_15 OX_15 R1_15 OY_15
  have R2_16 := Lib.hid r2
  clear hR r2 u16 RY XT_12 XT_13
  refine hK _ _ (inC Z16.out) ?_
  clear hK K
  repeat (with_reducible refine wpScript_still (fun K hK => ?_); go_simp; with_reducible refine hK _ ?_; clear hK K)
  refine wpScript_nil ?_
  clear OX_16 OY_16 HKY HK HXO HX1
  go_wp2_with fail
  refine (reveal_calls (some ⟨bS, 0, none⟩) none 3 3 0 0 (exS D pd cd) [] W16 rfl rfl (Nat.le_refl _) (by unfold maxLen; omega) (Nat.le_refl _) (by unfold maxLen; omega) RS_16.out (exS_at SD_16.out HDL.out C3.out C4.out) (fun h => absurd rfl h) (fun x hx => by cases hx) (HT.out.up V16.out)).mono ?_
  intro e W17 hR
  rw [(ex_rev3 D pd cd HDL.out).1, (ex_rev3 D pd cd HDL.out).2, exS_e D pd cd HDL.out [] (by simp)] at hR
  obtain ⟨p3, k3, q3, j3, A3, he, r3⟩ := hR.lit (n := 0) (k := 3) rfl rfl
  subst he
  have u17 := r3.up
  have V17 : Hid (Up w W17) := Up.trans V16.out u17
  have S_17 := Lib.hid (S_16.out.up u17)
  have SM_17 := Lib.hid (SM_16.out.up u17)
  have SD_17 := Lib.hid (SD_16.out.up u17)
  have RS_17 := Lib.hid (RS_16.out.kept2 u17)
  have R1_17 := Lib.hid (R1_16.out.kept u17)
  have R2_17 := Lib.hid (R2_16.out.kept u17)
  clear S_16 SM_16 SD_16 RS_16 R1_16 R2_16
  have R3_17 := Lib.hid r3
  clear hR r3 u17
  go_wp2_with fail
  refine (reveal_calls none none 0 0 0 0 [] [] W17 rfl rfl (Nat.le_refl _) (by unfold maxLen; omega) (Nat.le_refl _) (by unfold maxLen; omega) (fun h => absurd rfl h) (fun x hx => by cases hx) (fun h => absurd rfl h) (fun x hx => by cases hx) (HT.out.up V17.out)).mono ?_
  intro e W18 hR
  rw [ex_rev4.1, ex_rev4.2.1, ex_rev4.2.2] at hR
  obtain ⟨p4, k4, q4, j4, A4, he, r4⟩ := hR.lit (n := 0) (k := 0) rfl rfl
  subst he
  have u18 := r4.up
  have V18 : Hid (Up w W18) := Up.trans V17.out u18
  have S_18 := Lib.hid (S_17.out.up u18)
  have SM_18 := Lib.hid (SM_17.out.up u18)
  have SD_18 := Lib.hid (SD_17.out.up u18)
  have R1_18 := Lib.hid (R1_17.out.kept u18)
  have R2_18 := Lib.hid (R2_17.out.kept u18)
  have R3_18 := Lib.hid (R3_17.out.kept u18)
  clear S_17 SM_17 SD_17 R1_17 R2_17 R3_17
  have hmk31 := mk31
  clear hR r4 u18 RS_17
  go_wp2_with fail
  refine calls_named0 ?_
  intro W19 hW19
  obtain ⟨bw, hbw⟩ : ∃ b, b = W18.heap.size := ⟨_, rfl⟩
  rw [← hbw] at hW19 ⊢
  have u19 : Up W18 W19 := by rw [hW19]; exact ((Up.refl W18).alloc _).alloc _
  have s31 : SB W19 (some ⟨bw, 0, none⟩) (List.replicate 31 0) := SB.zeros (n := 31) (by rw [hW19]; exact (heap_old (by simp [hbw])).trans (heap_new hbw))
  have r31 : RowAt W19 (some ⟨bw + 1, 0, none⟩) 2 slCells [(⟨0, List.replicate 31 0, some ⟨bw, 0, none⟩, 31⟩ : SlA)] := rowAt_block (D := #[.int .i64 0, .slice (some ⟨bw, 0, none⟩) 31 31]) (fun x _ => slCells_len x) rfl (by rw [hW19]; exact heap_new (by simp [hbw]))
  have V19 : Hid (Up w W19) := Up.trans V18.out u19
  have S_19 := Lib.hid (S_18.out.up u19)
  have SM_19 := Lib.hid (SM_18.out.up u19)
  have SD_19 := Lib.hid (SD_18.out.up u19)
  have R1_19 := Lib.hid (R1_18.out.kept u19)
  have R2_19 := Lib.hid (R2_18.out.kept u19)
  have R3_19 := Lib.hid (R3_18.out.kept u19)
  clear S_18 SM_18 SD_18 R1_18 R2_18 R3_18
  clear hW19 hbw u19 hmk31
  refine (reveal_calls (some ⟨bw + 1, 0, none⟩) none 1 1 0 0 [(⟨0, List.replicate 31 0, some ⟨bw, 0, none⟩, 31⟩ : SlA)] [] W19 rfl rfl (Nat.le_refl _) (by unfold maxLen; omega) (Nat.le_refl _) (by unfold maxLen; omega) r31 (fun s hs => by rw [List.mem_singleton.1 hs]; exact ⟨s31, Nat.le_refl _, by show 31 ≤ maxLen; unfold maxLen; omega⟩) (fun h => absurd rfl h) (fun x hx => by cases hx) (HT.out.up V19.out)).mono ?_
  intro e W20 hR
  have h5 := ex_rev5 (some ⟨bw, 0, none⟩) 31 (List.replicate 31 0) (by simp)
  rw [h5.1, h5.2.1, h5.2.2] at hR
  obtain ⟨p5, k5, q5, j5, A5, he, r5⟩ := hR.lit (n := 0) (k := 0) rfl rfl
  subst he
  have u20 := r5.up
  have V20 : Hid (Up w W20) := Up.trans V19.out u20
  have S_20 := Lib.hid (S_19.out.up u20)
  have SM_20 := Lib.hid (SM_19.out.up u20)
  have SD_20 := Lib.hid (SD_19.out.up u20)
  have R1_20 := Lib.hid (R1_19.out.kept u20)
  have R2_20 := Lib.hid (R2_19.out.kept u20)
  have R3_20 := Lib.hid (R3_19.out.kept u20)
  clear S_19 SM_19 SD_19 R1_19 R2_19 R3_19
  clear hR r5 u20 h5 s31 r31
  go_wp2_with fail
  refine (ofCheck_calls ⟨⟨0, 0, 0, 0, 0, []⟩, none, 0⟩ W20 ⟨fun h => absurd rfl h, Nat.le_refl _, by show 0 ≤ maxLen; omega⟩).mono ?_
  rintro e W21 ⟨he, u21⟩
  rw [show chkO (⟨⟨0, 0, 0, 0, 0, []⟩, none, 0⟩ : OfA).o = 440 from ex_zero] at he
  subst he
  have V21 : Hid (Up w W21) := Up.trans V20.out u21
  have S_21 := Lib.hid (S_20.out.up u21)
  have SM_21 := Lib.hid (SM_20.out.up u21)
  have SD_21 := Lib.hid (SD_20.out.up u21)
  have R1_21 := Lib.hid (R1_20.out.kept u21)
  have R2_21 := Lib.hid (R2_20.out.kept u21)
  have R3_21 := Lib.hid (R3_20.out.kept u21)
  clear S_20 SM_20 SD_20 R1_20 R2_20 R3_20
  clear u21
  go_wp2_with fail
  refine (example_calls 0 0 W21).mono ?_
  rintro e W22 ⟨b6, rfl, l22, u22⟩
  have V22 : Hid (Up w W22) := Up.trans V21.out u22
  have S_22 := Lib.hid (S_21.out.up u22)
  have SM_22 := Lib.hid (SM_21.out.up u22)
  have SD_22 := Lib.hid (SD_21.out.up u22)
  have R1_22 := Lib.hid (R1_21.out.kept u22)
  have R2_22 := Lib.hid (R2_21.out.kept u22)
  have R3_22 := Lib.hid (R3_21.out.kept u22)
  clear S_21 SM_21 SD_21 R1_21 R2_21 R3_21
  have L22 := Lib.hid l22
  clear l22 u22
  go_wp2_with fail
  refine (ofCheck_calls (exA 0 0 b6) W22 L22.out).mono ?_
  rintro e W23 ⟨he, u23⟩
  rw [show chkO (exA 0 0 b6).o = 0 from ex_ok0] at he
  subst he
  have V23 : Hid (Up w W23) := Up.trans V22.out u23
  have S_23 := Lib.hid (S_22.out.up u23)
  have SM_23 := Lib.hid (SM_22.out.up u23)
  have SD_23 := Lib.hid (SD_22.out.up u23)
  have R1_23 := Lib.hid (R1_22.out.kept u23)
  have R2_23 := Lib.hid (R2_22.out.kept u23)
  have R3_23 := Lib.hid (R3_22.out.kept u23)
  clear S_22 SM_22 SD_22 R1_22 R2_22 R3_22
  have hmk9 := mk9
  clear u23 L22
  go_wp2_with fail
  refine (ocheck_big ⟨⟨0, 0, 0, 0, 0, List.replicate 9 (0, 0)⟩, some ⟨W23.heap.size, 0, none⟩, 9⟩ (W23.alloc (.cells Z9 61 (0, 0))) (by show 8 < 9; omega)).mono ?_
  rintro e W24 ⟨rfl, u24'⟩
  have u24 : Up W23 W24 := Up.trans ((Up.refl W23).alloc _) u24'
  have V24 : Hid (Up w W24) := Up.trans V23.out u24
  have S_24 := Lib.hid (S_23.out.up u24)
  have SM_24 := Lib.hid (SM_23.out.up u24)
  have SD_24 := Lib.hid (SD_23.out.up u24)
  have R1_24 := Lib.hid (R1_23.out.kept u24)
  have R2_24 := Lib.hid (R2_23.out.kept u24)
  have R3_24 := Lib.hid (R3_23.out.kept u24)
  clear S_23 SM_23 SD_23 R1_23 R2_23 R3_23
  clear u24 u24' hmk9
  go_wp2_with fail
  have hTG := tagged_calls ofTag pm cm M W24 (by decide) (by rw [← HMN.out]; exact HML.out) (by rw [← HMN.out]; exact C1.out) C2.out SM_24.out (HT.out.up V24.out).1 (HT.out.up V24.out).2
  rw [HTD.out, ← HMN.out] at hTG
  obtain ⟨E, hE⟩ : ∃ E, E = (u8s D).toArray := ⟨_, rfl⟩
  rw [← hE] at hTG
  have hEs : E.size = 32 := by rw [hE, List.size_toArray, u8s_length, HDL.out]
  have hEc : E.all (·.oneCell') = true := by
    rw [hE, Array.all_eq_true_iff_forall_mem]
    intro v hv
    exact u8s_one _ v (by simpa using hv)
  have HE := Lib.hid hE
  have HEs := Lib.hid hEs
  have HEc := Lib.hid hEc
  clear hE hEs hEc
  refine hTG.mono ?_
  rintro e W25 ⟨rfl, u25⟩
  have V25 : Hid (Up w W25) := Up.trans V24.out u25
  have S_25 := Lib.hid (S_24.out.up u25)
  have SM_25 := Lib.hid (SM_24.out.up u25)
  have SD_25 := Lib.hid (SD_24.out.up u25)
  have R1_25 := Lib.hid (R1_24.out.kept u25)
  have R2_25 := Lib.hid (R2_24.out.kept u25)
  have R3_25 := Lib.hid (R3_24.out.kept u25)
  clear S_24 SM_24 SD_24 R1_24 R2_24 R3_24
  clear u25 hTG
  obtain ⟨be, hbe⟩ : ∃ b, b = W25.heap.size := ⟨_, rfl⟩
  go_wp2_with (refine wpList_store_row rfl 47 (.tmp 25) (.tmp 142) rfl _ E rfl rfl 47 _ (heap_new rfl) (by rw [HEs.out]; rfl) (by rw [HEs.out]; rfl) HEc.out ?_; refine wpList_named ?_; intro W26 hW26; rw [← hbe]; have h26 : W26.heap[be]? = some (.cells (u8s D).toArray 47 (0, 0)) := (by rw [hW26, hbe, ← HE.out]; exact setRow_heap _ _ _ _ _ _ (heap_new rfl)); have u26 : Up W25 W26 := (by rw [hW26]; exact below_setRow ((Up.refl W25).alloc _) (Nat.le_refl _) _); have H26 := Lib.hid h26; clear h26 hW26 hbe)
  have V26 : Hid (Up w W26) := Up.trans V25.out u26
  have S_26 := Lib.hid (S_25.out.up u26)
  have SM_26 := Lib.hid (SM_25.out.up u26)
  have SD_26 := Lib.hid (SD_25.out.up u26)
  have R1_26 := Lib.hid (R1_25.out.kept u26)
  have R2_26 := Lib.hid (R2_25.out.kept u26)
  have R3_26 := Lib.hid (R3_25.out.kept u26)
  clear S_25 SM_25 SD_25 R1_25 R2_25 R3_25
  have SE_26 : Hid (SB W26 (some ⟨be, 0, none⟩) D) := SB.of_digest H26.out
  clear u26 H26
  refine wp_region_script_at [(true, 0), (true, 1), (true, 2), (true, 3), (true, 4), (true, 5), (true, 6), (true, 7), (true, 8), (true, 9), (true, 10), (true, 11), (true, 12), (true, 13), (true, 14), (true, 15), (true, 16), (false, 17), (false, 18), (false, 19), (true, 20), (true, 21), (true, 22), (false, 23), (false, 24), (true, 25), (true, 26), (true, 27), (true, 28), (false, 29), (true, 30), (true, 31), (true, 32), (false, 33), (false, 34), (true, 35), (true, 36), (true, 37), (true, 38), (true, 39), (true, 40), (true, 41), (true, 42), (false, 43), (false, 44), (true, 45), (true, 46), (true, 47), (true, 48), (true, 49), (true, 50), (true, 51), (true, 52), (true, 53), (true, 54)] (by kernel_rfl) (by kernel_rfl) (fun _ _ d _ _ h => by cases d <;> exact h) ?_
  intro W27 u27 hW27
  have V27 : Hid (Up w W27) := Up.trans V26.out u27
  have S_27 := Lib.hid (S_26.out.up u27)
  have SM_27 := Lib.hid (SM_26.out.up u27)
  have SD_27 := Lib.hid (SD_26.out.up u27)
  have R1_27 := Lib.hid (R1_26.out.kept u27)
  have R2_27 := Lib.hid (R2_26.out.kept u27)
  have R3_27 := Lib.hid (R3_26.out.kept u27)
  have SE_27 := Lib.hid (SE_26.out.up u27)
  clear S_26 SM_26 SD_26 R1_26 R2_26 R3_26 SE_26
  clear u27
  have Z27 : Hid (Up W27 W27) := Up.refl _
  refine ⟨fun W' => Up W27 W', Z27.out, ?_⟩
  haveI : Nonempty (InC (fun W' => Up W27 W')) := ⟨⟨W27, Z27.out⟩⟩
  simp only [pick2, List.getElem?_cons_zero, List.getElem?_cons_succ]
  have d16 : decide ((16 : Int) < (mn : Int)) = true := by have := HM16.out; simp; omega
  have k1 : ∀ y : InC (fun W' => Up W27 W'), (convert 27 9 (.slice pd 32 cd)).run Tryd.prog y.w = .ok (.string (bsOf D)) y.w := fun y => by have := run_text_of y.w pd cd D (SD_27.out.up y.h); rw [HDL.out] at this; exact this
  have k2 : ∀ y : InC (fun W' => Up W27 W'), (convert 27 9 (.slice (some ⟨be, 0, none⟩) 32 32)).run Tryd.prog y.w = .ok (.string (bsOf D)) y.w := fun y => by have := run_text_of y.w (some ⟨be, 0, none⟩) 32 D (SE_27.out.up y.h); rw [HDL.out] at this; exact this
  clear hW27
  repeat (with_reducible refine wpScript_still (fun K hK => ?_); go_simp; with_reducible refine hK _ ?_; clear hK K)
  clear k1 k2
  clear S_27 SM_27 SD_27 SE_27
  refine wpScript_chain (fun K hK => ?_)
  go_simp
  refine (example_calls 7 2 W27).mono ?_
  rintro e W28 ⟨b7, rfl, l28, u28⟩
  have V28 : Hid (Up w W28) := Up.trans V27.out u28
  have R1_28 := Lib.hid (R1_27.out.kept u28)
  have R2_28 := Lib.hid (R2_27.out.kept u28)
  have R3_28 := Lib.hid (R3_27.out.kept u28)
  have Z28 : Hid (Up W27 W28) := Up.trans Z27.out u28
  clear R1_27 R2_27 R3_27
  have L28 := Lib.hid l28
  clear l28 u28
  refine hK _ _ (inC Z28.out) ?_
  clear hK K
  refine wpScript_chain (fun K hK => ?_)
  go_simp
  obtain ⟨n29, hb29⟩ : ∃ b, b = W28.heap.size := ⟨_, rfl⟩
  obtain ⟨W29, hW29⟩ : ∃ W, W = W28.alloc (.cells #[.int .i64 7, .int .i64 2, .int .i64 (-5), .int .i64 3, .int .i64 9, .slice (some ⟨b7, 0, none⟩) 2 2] 26 (0, 0)) := ⟨_, rfl⟩
  rw [← hW29, ← hb29]
  have u29 : Up W28 W29 := by rw [hW29]; exact (Up.refl _).alloc _
  have h29 : W29.heap[n29]? = some (.cells #[.int .i64 7, .int .i64 2, .int .i64 (-5), .int .i64 3, .int .i64 9, .slice (some ⟨b7, 0, none⟩) 2 2] 26 (0, 0)) := by rw [hW29]; exact heap_new hb29
  have V29 : Hid (Up w W29) := Up.trans V28.out u29
  have R1_29 := Lib.hid (R1_28.out.kept u29)
  have R2_29 := Lib.hid (R2_28.out.kept u29)
  have R3_29 := Lib.hid (R3_28.out.kept u29)
  have Z29 : Hid (Up W27 W29) := Up.trans Z28.out u29
  clear R1_28 R2_28 R3_28
  have ra29 : Hid (RowAt W29 (some ⟨n29, 0, none⟩) 6 ofCells [exA 7 2 b7]) := rowAt_block (D := #[.int .i64 7, .int .i64 2, .int .i64 (-5), .int .i64 3, .int .i64 9, .slice (some ⟨b7, 0, none⟩) 2 2]) (fun x _ => ofCells_len x) rfl h29
  have la29 := Lib.hid (L28.out.up u29)
  clear u29 h29 hW29 hb29
  refine hK _ _ (inC Z29.out) ?_
  clear hK K
  refine wpScript_chain (fun K hK => ?_)
  go_simp
  refine (rsameAll_calls p1 (some ⟨n29, 0, none⟩) 1 1 k1 1 A1 [exA 7 2 b7] W29 R1_29.out.len.symm rfl (by omega) R1_29.out.c1 R1_29.out.c2 (Nat.le_refl _) (by unfold maxLen; omega) R1_29.out.row ra29.out (fun a ha => ⟨R1_29.out.lts a ha, ex_small R1_29.out.eq a ha⟩) (fun b hb => by rw [List.mem_singleton.1 hb]; exact la29.out)).mono ?_
  rintro e W30 ⟨he, u30⟩
  rw [decide_eq_true (show A1.map OfA.o = [exA 7 2 b7].map OfA.o from R1_29.out.eq)] at he
  subst he
  have V30 : Hid (Up w W30) := Up.trans V29.out u30
  have R1_30 := Lib.hid (R1_29.out.kept u30)
  have R2_30 := Lib.hid (R2_29.out.kept u30)
  have R3_30 := Lib.hid (R3_29.out.kept u30)
  have Z30 : Hid (Up W27 W30) := Up.trans Z29.out u30
  clear R1_29 R2_29 R3_29
  clear u30
  refine hK _ _ (inC Z30.out) ?_
  clear hK K
  clear ra29 la29 L28
  repeat (with_reducible refine wpScript_still (fun K hK => ?_); go_simp; with_reducible refine hK _ ?_; clear hK K)
  refine wpScript_chain (fun K hK => ?_)
  go_simp
  obtain ⟨n31, hb31⟩ : ∃ b, b = W30.heap.size := ⟨_, rfl⟩
  obtain ⟨W31, hW31⟩ : ∃ W, W = W30.alloc (.cells #[.int .i64 0, .int .i64 2] 3 (0, 0)) := ⟨_, rfl⟩
  rw [← hW31, ← hb31]
  have u31 : Up W30 W31 := by rw [hW31]; exact (Up.refl _).alloc _
  have h31 : W31.heap[n31]? = some (.cells #[.int .i64 0, .int .i64 2] 3 (0, 0)) := by rw [hW31]; exact heap_new hb31
  have V31 : Hid (Up w W31) := Up.trans V30.out u31
  have R1_31 := Lib.hid (R1_30.out.kept u31)
  have R2_31 := Lib.hid (R2_30.out.kept u31)
  have R3_31 := Lib.hid (R3_30.out.kept u31)
  have Z31 : Hid (Up W27 W31) := Up.trans Z30.out u31
  clear R1_30 R2_30 R3_30
  have rn31 : Hid (RowAt W31 (some ⟨n31, 0, none⟩) 1 iEnc [0, 2]) := rowAt_block (D := #[.int .i64 0, .int .i64 2]) (fun x _ => iEnc_len x) rfl h31
  clear u31 h31 hW31 hb31
  refine hK _ _ (inC Z31.out) ?_
  clear hK K
  refine wpScript_chain (fun K hK => ?_)
  go_simp
  refine (rsameNumbers_calls q1 (some ⟨n31, 0, none⟩) 2 2 j1 2 [0, 2] [0, 2] W31 rfl rfl (by omega) R1_31.out.d1 R1_31.out.d2 (Nat.le_refl _) (by unfold maxLen; omega) R1_31.out.row2 rn31.out).mono ?_
  rintro e W32 ⟨he, u32⟩
  rw [decide_eq_true rfl] at he
  subst he
  have V32 : Hid (Up w W32) := Up.trans V31.out u32
  have R1_32 := Lib.hid (R1_31.out.kept u32)
  have R2_32 := Lib.hid (R2_31.out.kept u32)
  have R3_32 := Lib.hid (R3_31.out.kept u32)
  have Z32 : Hid (Up W27 W32) := Up.trans Z31.out u32
  clear R1_31 R2_31 R3_31
  clear u32
  refine hK _ _ (inC Z32.out) ?_
  clear hK K
  clear rn31
  repeat (with_reducible refine wpScript_still (fun K hK => ?_); go_simp; with_reducible refine hK _ ?_; clear hK K)
  refine wpScript_chain (fun K hK => ?_)
  go_simp
  refine (rsameAll_calls p2 p1 1 1 k2 k1 A2 A1 W32 R2_32.out.len.symm R1_32.out.len.symm (by omega) R2_32.out.c1 R2_32.out.c2 R1_32.out.c1 R1_32.out.c2 R2_32.out.row R1_32.out.row (fun a ha => ⟨R2_32.out.lts a ha, ex_small R2_32.out.eq a ha⟩) R1_32.out.lts).mono ?_
  rintro e W33 ⟨he, u33⟩
  rw [decide_eq_true (R2_32.out.eq.trans R1_32.out.eq.symm)] at he
  subst he
  have V33 : Hid (Up w W33) := Up.trans V32.out u33
  have R1_33 := Lib.hid (R1_32.out.kept u33)
  have R2_33 := Lib.hid (R2_32.out.kept u33)
  have R3_33 := Lib.hid (R3_32.out.kept u33)
  have Z33 : Hid (Up W27 W33) := Up.trans Z32.out u33
  clear R1_32 R2_32 R3_32
  clear u33
  refine hK _ _ (inC Z33.out) ?_
  clear hK K
  repeat (with_reducible refine wpScript_still (fun K hK => ?_); go_simp; with_reducible refine hK _ ?_; clear hK K)
  refine wpScript_chain (fun K hK => ?_)
  go_simp
  obtain ⟨n34, hb34⟩ : ∃ b, b = W33.heap.size := ⟨_, rfl⟩
  obtain ⟨W34, hW34⟩ : ∃ W, W = W33.alloc (.cells #[.int .i64 0] 3 (0, 0)) := ⟨_, rfl⟩
  rw [← hW34, ← hb34]
  have u34 : Up W33 W34 := by rw [hW34]; exact (Up.refl _).alloc _
  have h34 : W34.heap[n34]? = some (.cells #[.int .i64 0] 3 (0, 0)) := by rw [hW34]; exact heap_new hb34
  have V34 : Hid (Up w W34) := Up.trans V33.out u34
  have R1_34 := Lib.hid (R1_33.out.kept u34)
  have R2_34 := Lib.hid (R2_33.out.kept u34)
  have R3_34 := Lib.hid (R3_33.out.kept u34)
  have Z34 : Hid (Up W27 W34) := Up.trans Z33.out u34
  clear R1_33 R2_33 R3_33
  have rn34 : Hid (RowAt W34 (some ⟨n34, 0, none⟩) 1 iEnc [0]) := rowAt_block (D := #[.int .i64 0]) (fun x _ => iEnc_len x) rfl h34
  clear u34 h34 hW34 hb34
  refine hK _ _ (inC Z34.out) ?_
  clear hK K
  refine wpScript_chain (fun K hK => ?_)
  go_simp
  refine (rsameNumbers_calls q2 (some ⟨n34, 0, none⟩) 1 1 j2 1 [0] [0] W34 rfl rfl (by omega) R2_34.out.d1 R2_34.out.d2 (Nat.le_refl _) (by unfold maxLen; omega) R2_34.out.row2 rn34.out).mono ?_
  rintro e W35 ⟨he, u35⟩
  rw [decide_eq_true rfl] at he
  subst he
  have V35 : Hid (Up w W35) := Up.trans V34.out u35
  have R1_35 := Lib.hid (R1_34.out.kept u35)
  have R2_35 := Lib.hid (R2_34.out.kept u35)
  have R3_35 := Lib.hid (R3_34.out.kept u35)
  have Z35 : Hid (Up W27 W35) := Up.trans Z34.out u35
  clear R1_34 R2_34 R3_34
  clear u35
  refine hK _ _ (inC Z35.out) ?_
  clear hK K
  clear rn34
  repeat (with_reducible refine wpScript_still (fun K hK => ?_); go_simp; with_reducible refine hK _ ?_; clear hK K)
  refine wpScript_chain (fun K hK => ?_)
  go_simp
  obtain ⟨n36, hb36⟩ : ∃ b, b = W35.heap.size := ⟨_, rfl⟩
  obtain ⟨W36, hW36⟩ : ∃ W, W = W35.alloc (.cells #[.int .i64 0, .int .i64 1, .int .i64 2] 3 (0, 0)) := ⟨_, rfl⟩
  rw [← hW36, ← hb36]
  have u36 : Up W35 W36 := by rw [hW36]; exact (Up.refl _).alloc _
  have h36 : W36.heap[n36]? = some (.cells #[.int .i64 0, .int .i64 1, .int .i64 2] 3 (0, 0)) := by rw [hW36]; exact heap_new hb36
  have V36 : Hid (Up w W36) := Up.trans V35.out u36
  have R1_36 := Lib.hid (R1_35.out.kept u36)
  have R2_36 := Lib.hid (R2_35.out.kept u36)
  have R3_36 := Lib.hid (R3_35.out.kept u36)
  have Z36 : Hid (Up W27 W36) := Up.trans Z35.out u36
  clear R1_35 R2_35 R3_35
  have rn36 : Hid (RowAt W36 (some ⟨n36, 0, none⟩) 1 iEnc [0, 1, 2]) := rowAt_block (D := #[.int .i64 0, .int .i64 1, .int .i64 2]) (fun x _ => iEnc_len x) rfl h36
  clear u36 h36 hW36 hb36
  refine hK _ _ (inC Z36.out) ?_
  clear hK K
  refine wpScript_chain (fun K hK => ?_)
  go_simp
  refine (rsameNumbers_calls q3 (some ⟨n36, 0, none⟩) 3 3 j3 3 [0, 1, 2] [0, 1, 2] W36 rfl rfl (by omega) R3_36.out.d1 R3_36.out.d2 (Nat.le_refl _) (by unfold maxLen; omega) R3_36.out.row2 rn36.out).mono ?_
  rintro e W37 ⟨he, u37⟩
  rw [decide_eq_true rfl] at he
  subst he
  have V37 : Hid (Up w W37) := Up.trans V36.out u37
  have R1_37 := Lib.hid (R1_36.out.kept u37)
  have R2_37 := Lib.hid (R2_36.out.kept u37)
  have R3_37 := Lib.hid (R3_36.out.kept u37)
  have Z37 : Hid (Up W27 W37) := Up.trans Z36.out u37
  clear R1_36 R2_36 R3_36
  clear u37
  refine hK _ _ (inC Z37.out) ?_
  clear hK K
  clear rn36
  repeat (with_reducible refine wpScript_still (fun K hK => ?_); go_simp; with_reducible refine hK _ ?_; clear hK K)
  refine wpScript_nil ?_
  go_wp2_with fail
  go_ret
  exact ⟨rfl, V37.out⟩
end Go.Proofs.YtmifpokafaiebaaDoor
