/- the reference's Message where it answers, Commit. -/
import Derived.Test.YtmifpokafaiebaaDoorOv3
namespace Go.Proofs.YtmifpokafaiebaaDoor
open Go Go.RowKit
set_option linter.unusedVariables false
set_option maxRecDepth 100000

theorem Up.below' {A B : World} {base : Nat} (h : Up A B) (hb : base ≤ A.heap.size) : Below base A B := Below.mono h hb

set_option maxHeartbeats 8000000 in
theorem rmessage_good (a : OfA) (salt : List UInt8) (sp : Option Addr) (sc : Nat) (w : World) (h : LtsAt w a) (hsb : SB w sp salt) (hb : msgE a.o salt = 0) : Calls Tryd.prog 13 #[.agg (ofCells a).toArray, .slice sp salt.length sc] w (RetD w (encMsg a.o salt) 0) := by
  have CK := Lib.hid fun W (hu : Up w W) => rcheck44_calls a W (h.up hu)
  have hc0 : chkO a.o = 0 := by
    unfold msgE at hb
    by_cases hc : chkO a.o = 0
    · exact hc
    · rw [if_neg hc] at hb; exact absurd hb hc
  have h16 : salt.length = 16 := by
    unfold msgE at hb
    rw [if_pos hc0] at hb
    by_cases hl : salt.length = 16
    · exact hl
    · rw [if_neg hl] at hb; omega
  rw [hc0] at CK
  have ok := chkO_ok hc0
  have CV := Lib.hid fun W (hu : Up w W) => run_text_of W sp sc salt (hsb.up hu)
  rw [h16] at CV ⊢
  have hes : (bsOf salt).size = 16 := by rw [bsOf_size, h16]
  have d16 : (((16 : Nat) : Int) != 16) = false := by simp
  obtain ⟨o, p, c⟩ := a
  obtain ⟨hr, hc, hcm⟩ := h
  unfold ofCells at CK ⊢
  simp only at hr hc hcm hc0 ok CK ⊢
  obtain ⟨m, hm⟩ : ∃ m, m = o.lots.length := ⟨_, rfl⟩
  have hm8 : m ≤ 8 := by rw [hm]; exact ok.len
  rw [← hm] at CK hc ⊢
  have HM := Lib.hid hm
  have HRW := Lib.hid hr
  have OK := Lib.hid ok
  have HS16 := Lib.hid h16
  have HES := Lib.hid hes
  clear hm hr hsb hb hc0 h16 hes ok
  go_enter Tryd.func13, Tryd.ntmps13
  go_wp2_with ((with_reducible show wpList _ _ _ (Oper.mk _ (Op.load _ (Operand.tmp 2)) _ _ _ _ :: _) _ _); refine wpList_named ?_; intro W1 hW1; (have u1 : Up w W1 := by (rw [hW1]; exact (Up.refl w).alloc _)); (have xa : W1.heap[w.heap.size]? = some (.cells #[.int .i64 o.no, .int .i64 o.farm, .int .i64 o.price, .int .i64 o.lo, .int .i64 o.hi, .slice p m c] 26 (0, 0)) := by (rw [hW1]; exact heap_new rfl)); have U1 := Lib.hid u1; have XA := Lib.hid xa; clear u1 xa hW1; refine wpList_load_arr rfl 26 (.tmp 2) rfl w.heap.size 0 rfl #[.int .i64 o.no, .int .i64 o.farm, .int .i64 o.price, .int .i64 o.lo, .int .i64 o.hi, .slice p m c] _ (rangeAt_row XA.out) rfl rfl (by rfl) ?_)
  refine (CK.out W1 U1.out).mono ?_
  rintro e W2 ⟨rfl, u2⟩
  have U2 : Hid (Up w W2) := Up.trans U1.out u2
  have XA2 := Lib.hid ((u2.block _ (lt_of_block XA.out)).trans XA.out)
  obtain ⟨bo, hbo⟩ : ∃ b, b = w.heap.size := ⟨_, rfl⟩
  rw [← hbo] at XA2 ⊢
  have HBO := Lib.hid hbo
  clear u2 XA CK hbo
  go_wp2_with fail
  refine wp_named ?_
  intro W3 hW3
  obtain ⟨bq, hbq⟩ : ∃ b, b = W2.heap.size := ⟨_, rfl⟩
  rw [← hbq]
  have u3 : Up W2 W3 := by rw [hW3]; exact (Up.refl W2).alloc _
  have o3 : OwnR W3 bq 3 1 iEnc (.slice (some ⟨bq, 0, none⟩) 0 0) [] := by rw [hW3, hbq]; exact OwnR.empty W2
  have U3 : Hid (Up w W3) := Up.trans U2.out u3
  have XA3 := Lib.hid ((u3.block _ (lt_of_block XA2.out)).trans XA2.out)
  have O3 := Lib.hid o3
  have HBO2 : Hid (bo < bq) := by show _ < _; rw [hbq]; exact lt_of_block XA2.out
  have HBQ : Hid (w.heap.size ≤ bq) := by show _ ≤ _; rw [hbq]; exact U2.out.size
  clear hW3 u3 o3 hbq XA2 U2
  go_loopw [7, 8] (fun v7 v8 wq => ∃ i : Nat, i ≤ m ∧ v8 = .int .i64 i ∧ Hid (OwnR wq bq 3 1 iEnc v7 (lotNs (o.lots.take i))) ∧ Hid (Below bq W3 wq)) (fun _ v8 _ => m - (intOf v8).toNat)
  case atStart => exact ⟨0, by omega, rfl, O3, Below.refl _ _⟩
  case round =>
    obtain ⟨i, hi, rfl, HO, HU⟩ := hrel
    have UW : Hid (Up w wr) := Below.trans U3.out (HU.out.mono HBQ.out)
    have XR : Hid (wr.heap[bo]? = some (.cells #[.int .i64 o.no, .int .i64 o.farm, .int .i64 o.price, .int .i64 o.lo, .int .i64 o.hi, .slice p m c] 26 (0, 0))) := (HU.out.block _ HBO2.out).trans XA3.out
    have q5 : wr.cell? ⟨bo, 5, none⟩ = some (.slice p m c) := by rw [cell_of_row wr bo 5 _ _ _ XR.out]; rfl
    have HBS : Hid (bq ≤ wr.heap.size) := Nat.le_trans (Nat.le_of_lt (O3.out.lt bq rfl)) HU.out.size
    by_cases hlt : i < m
    case pos =>
      have hil : i < o.lots.length := by rw [← HM.out]; exact hlt
      obtain ⟨b, off, rfl, hpr⟩ := HRW.out (by rintro hh; rw [hh] at hil; simp at hil)
      have g := hpr i hil
      have hst : lotNs (o.lots.take (i + 1)) = lotNs (o.lots.take i) ++ [(o.lots[i]).1, (o.lots[i]).2] := by rw [List.take_succ_eq_append_getElem hil, lotNs_snoc]
      have hll : (lotNs (o.lots.take i)).length ≤ 100 := by rw [lotNs_length, List.length_take]; omega
      obtain ⟨x, hx⟩ : ∃ x, x = o.lots[i] := ⟨_, rfl⟩
      rw [← hx] at g hst
      have g1 : w.cell? ⟨b, off + i * 2, none⟩ = some (.int .i64 x.1) := by simpa using g 0 _ rfl
      have g2 : w.cell? ⟨b, off + i * 2 + 1, none⟩ = some (.int .i64 x.2) := by simpa using g 1 _ rfl
      have HBL : Hid (b < w.heap.size) := block_lt_of_cell g1
      have G1 := Lib.hid g1
      have G2 := Lib.hid g2
      have HST := Lib.hid hst
      have HLL := Lib.hid hll
      clear hx g hst hpr hil hll g1 g2
      go_wp2_with fail
      refine wp_region_script_at [(true, 0), (true, 1), (true, 2), (true, 3), (true, 4), (true, 5), (true, 6), (true, 7), (true, 8), (true, 9), (true, 10), (true, 11), (true, 12), (false, 13), (false, 14), (true, 15)] (by kernel_rfl) (by kernel_rfl) (fun _ _ d _ _ h => by cases d <;> exact h) ?_
      intro W U hW
      have VW : Hid (Up wr W) := U
      clear U hW q5
      refine ⟨fun W' => Below bq wr W', Up.below' VW.out HBS.out, ?_⟩
      haveI : Nonempty (InC (fun W' => Below bq wr W')) := ⟨⟨W, Up.below' VW.out HBS.out⟩⟩
      have k5 : ∀ y : InC (fun W' => Below bq wr W'), y.w.cell? ⟨bo, 5, none⟩ = some (.slice (some ⟨b, off, none⟩) m c) := fun y => by rw [cell_of_row y.w bo 5 _ _ _ ((y.h.block _ HBO2.out).trans XR.out)]; rfl
      have k1 : ∀ y : InC (fun W' => Below bq wr W'), y.w.cell? ⟨b, off + i * 2, none⟩ = some (.int .i64 x.1) := fun y => (y.h.cell (p := ⟨b, off + i * 2, none⟩) (by show b < bq; have := HBL.out; have := HBQ.out; omega)).trans (cell_up G1.out UW.out)
      have k2 : ∀ y : InC (fun W' => Below bq wr W'), y.w.cell? ⟨b, off + i * 2 + 1, none⟩ = some (.int .i64 x.2) := fun y => (y.h.cell (p := ⟨b, off + i * 2 + 1, none⟩) (by show b < bq; have := HBL.out; have := HBQ.out; omega)).trans (cell_up G2.out UW.out)
      simp only [pick2, List.getElem?_cons_zero, List.getElem?_cons_succ]
      repeat (with_reducible refine wpScript_still (fun K hK => ?_); go_simp; with_reducible refine hK _ ?_; clear hK K)
      clear k5 k1 k2
      refine wpScript_chain (fun K hK => ?_)
      go_simp
      obtain ⟨W4, hW4⟩ : ∃ W4, W4 = W.alloc (.cells #[.int .i64 x.1, .int .i64 x.2] 3 (0, 0)) := ⟨_, rfl⟩
      rw [← hW4]
      have hu : Up wr W4 := by rw [hW4]; exact VW.out.alloc _
      have hr2 : RowAt W4 (some ⟨W.heap.size, 0, none⟩) 1 iEnc [x.1, x.2] := rowAt_block (D := #[.int .i64 x.1, .int .i64 x.2]) (fun _ _ => rfl) rfl (by rw [hW4]; exact heap_new rfl)
      refine hK _ _ (inC (Up.below' hu HBS.out)) ?_
      clear hK K hW4
      refine wpScript_want rfl (fun K hK => ?_)
      refine wp_appR (.tmp 27) (.tmp 40) eltInt (by omega) rfl rfl bq _ (lotNs (o.lots.take i)) _ 2 2 [x.1, x.2] rfl rfl rfl (fun x _ => iEnc_len x) (fun x _ => iEnc_one x) (HO.out.up hu) hr2 (by have := HLL.out; simp; omega) (Nat.le_trans HBS.out hu.size) ?_
      intro p' m' d' w5 o5 b5 _
      rw [← HST.out] at o5
      have O5 := Lib.hid o5
      have B5 : Hid (Below bq wr w5) := (Up.below' hu HBS.out).trans b5
      refine hK _ _ (inC B5.out) ?_
      clear hK K o5 b5 hr2 hu
      repeat (with_reducible refine wpScript_still (fun K hK => ?_); go_simp; with_reducible refine hK _ ?_; clear hK K)
      refine wpScript_nil ?_
      have B6 : Hid (Below bq W3 w5) := HU.out.trans B5.out
      clear B5
      go_wp2_with fail
      exact ⟨⟨i + 1, by omega, by go_num, O5, B6⟩, by simp [intOf]; omega⟩
    have e : i = m := by omega
    subst e
    have hO := HO.out
    rw [HM.out, List.take_of_length_le (Nat.le_refl _)] at hO
    obtain ⟨pl, cl, hvl, h1, h2, hrl, -⟩ := hO.form (fun x _ => iEnc_len x)
    obtain ⟨m2, hm2⟩ : ∃ m2, m2 = (lotNs o.lots).length := ⟨_, rfl⟩
    rw [← hm2] at hvl
    subst hvl
    rw [← hm2] at h1
    have M2 := Lib.hid hm2
    have M16 : Hid (m2 ≤ 16) := by show m2 ≤ 16; rw [hm2, lotNs_length]; have := OK.out.len; omega
    have OL := Lib.hid hrl
    have OLC := Lib.hid h1
    have OLM := Lib.hid h2
    clear hm2 hrl h1 h2 hO HO HU XA3 U1 U3 HM HRW hi hlt hm8 hc hcm
    go_wp2_with fail
    refine wp_region_script_at [(true, 0), (true, 1), (true, 3), (true, 4), (true, 6), (true, 7), (true, 9), (true, 10), (true, 11), (true, 13), (true, 14), (true, 15), (true, 17), (true, 19), (true, 20), (false, 2), (false, 5), (false, 8), (false, 12), (false, 16), (false, 18), (false, 21), (false, 22), (false, 23), (false, 24), (true, 25), (true, 26), (true, 27), (true, 28), (true, 29)] (by kernel_rfl) (by kernel_rfl) (fun _ _ d _ _ h => by cases d <;> exact h) ?_
    intro W U hW
    have VW : Hid (Up wr W) := U
    have OLW : Hid (RowAt W pl 1 iEnc (lotNs o.lots)) := OL.out.up U
    clear U hW q5 OL
    refine ⟨fun W' => Up wr W', VW.out, ?_⟩
    haveI : Nonempty (InC (fun W' => Up wr W')) := ⟨⟨W, VW.out⟩⟩
    have k0 : ∀ y : InC (fun W' => Up wr W'), y.w.cell? ⟨bo, 0, none⟩ = some (.int .i64 o.no) := fun y => by rw [cell_of_row y.w bo 0 _ _ _ ((y.h.block _ (lt_of_block XR.out)).trans XR.out)]; rfl
    have k1 : ∀ y : InC (fun W' => Up wr W'), y.w.cell? ⟨bo, 1, none⟩ = some (.int .i64 o.farm) := fun y => by rw [cell_of_row y.w bo 1 _ _ _ ((y.h.block _ (lt_of_block XR.out)).trans XR.out)]; rfl
    have k2 : ∀ y : InC (fun W' => Up wr W'), y.w.cell? ⟨bo, 2, none⟩ = some (.int .i64 o.price) := fun y => by rw [cell_of_row y.w bo 2 _ _ _ ((y.h.block _ (lt_of_block XR.out)).trans XR.out)]; rfl
    have k3 : ∀ y : InC (fun W' => Up wr W'), y.w.cell? ⟨bo, 3, none⟩ = some (.int .i64 o.lo) := fun y => by rw [cell_of_row y.w bo 3 _ _ _ ((y.h.block _ (lt_of_block XR.out)).trans XR.out)]; rfl
    have k4 : ∀ y : InC (fun W' => Up wr W'), y.w.cell? ⟨bo, 4, none⟩ = some (.int .i64 o.hi) := fun y => by rw [cell_of_row y.w bo 4 _ _ _ ((y.h.block _ (lt_of_block XR.out)).trans XR.out)]; rfl
    have kc : ∀ y : InC (fun W' => Up wr W'), (convert 27 9 (.slice sp 16 sc)).run Tryd.prog y.w = .ok (.string (bsOf salt)) y.w := fun y => CV.out y.w (Up.trans UW.out y.h)
    simp only [pick2, List.getElem?_cons_zero, List.getElem?_cons_succ]
    repeat (with_reducible refine wpScript_still (fun K hK => ?_); go_simp; with_reducible refine hK _ ?_; clear hK K)
    clear k0 k1 k2 k3 k4 kc
    refine wpScript_chain (fun K hK => ?_)
    go_simp
    refine (rc_Int o.no W).mono ?_
    rintro e w1 ⟨rfl, u1⟩
    have Vw1 : Hid (Up wr w1) := Up.trans VW.out u1
    have OLw1 : Hid (RowAt w1 pl 1 iEnc (lotNs o.lots)) := OLW.out.up u1
    refine hK _ _ (inC Vw1.out) ?_
    clear hK K u1 OLW
    refine wpScript_chain (fun K hK => ?_)
    go_simp
    refine (rc_Int o.farm w1).mono ?_
    rintro e w2 ⟨rfl, u1⟩
    have Vw2 : Hid (Up wr w2) := Up.trans Vw1.out u1
    have OLw2 : Hid (RowAt w2 pl 1 iEnc (lotNs o.lots)) := OLw1.out.up u1
    refine hK _ _ (inC Vw2.out) ?_
    clear hK K u1 OLw1
    refine wpScript_chain (fun K hK => ?_)
    go_simp
    refine (rc_Int o.price w2).mono ?_
    rintro e w3 ⟨rfl, u1⟩
    have Vw3 : Hid (Up wr w3) := Up.trans Vw2.out u1
    have OLw3 : Hid (RowAt w3 pl 1 iEnc (lotNs o.lots)) := OLw2.out.up u1
    refine hK _ _ (inC Vw3.out) ?_
    clear hK K u1 OLw2
    refine wpScript_chain (fun K hK => ?_)
    go_simp
    refine (rc_Int o.lo w3).mono ?_
    rintro e w4 ⟨rfl, u1⟩
    have Vw4 : Hid (Up wr w4) := Up.trans Vw3.out u1
    have OLw4 : Hid (RowAt w4 pl 1 iEnc (lotNs o.lots)) := OLw3.out.up u1
    refine hK _ _ (inC Vw4.out) ?_
    clear hK K u1 OLw3
    refine wpScript_chain (fun K hK => ?_)
    go_simp
    refine (rc_Int o.hi w4).mono ?_
    rintro e w5 ⟨rfl, u1⟩
    have Vw5 : Hid (Up wr w5) := Up.trans Vw4.out u1
    have OLw5 : Hid (RowAt w5 pl 1 iEnc (lotNs o.lots)) := OLw4.out.up u1
    refine hK _ _ (inC Vw5.out) ?_
    clear hK K u1 OLw4
    refine wpScript_chain (fun K hK => ?_)
    go_simp
    refine (rints_calls pl m2 cl (lotNs o.lots) w5 M2.out (by have := M16.out; omega) OLC.out OLM.out OLw5.out).mono ?_
    rintro e w6 ⟨s2, rfl, o6, u6⟩
    obtain ⟨p2, c2, h2, -, -⟩ := o6.form
    obtain ⟨n2, hn2⟩ : ∃ n2, n2 = ((ints (lotNs o.lots)).map elIt).length := ⟨_, rfl⟩
    rw [← hn2] at h2
    subst h2
    have V6 : Hid (Up wr w6) := Up.trans Vw5.out u6
    have O6 := Lib.hid o6
    refine hK _ _ (inC V6.out) ?_
    clear hK K o6 u6 hn2 OLw5
    refine wpScript_chain (fun K hK => ?_)
    go_simp
    refine (rc_Text (bsOf salt) w6).mono ?_
    rintro e w7 ⟨rfl, u7⟩
    have V7 : Hid (Up wr w7) := Up.trans V6.out u7
    have O7 := Lib.hid (O6.out.up u7)
    refine hK _ _ (inC V7.out) ?_
    clear hK K u7 O6
    refine wpScript_chain (fun K hK => ?_)
    go_simp
    obtain ⟨b8, hb8⟩ : ∃ b, b = w7.heap.size := ⟨_, rfl⟩
    rw [← hb8]
    obtain ⟨D28, hD28⟩ : ∃ D : Array Value, D = #[.int .i64 1, .int .i64 o.no, .string ⟨#[]⟩, .slice none 0 0, .int .i64 1, .int .i64 o.farm, .string ⟨#[]⟩, .slice none 0 0, .int .i64 1, .int .i64 o.price, .string ⟨#[]⟩, .slice none 0 0, .int .i64 1, .int .i64 o.lo, .string ⟨#[]⟩, .slice none 0 0, .int .i64 1, .int .i64 o.hi, .string ⟨#[]⟩, .slice none 0 0, .int .i64 3, .int .i64 0, .string ⟨#[]⟩, .slice p2 n2 c2, .int .i64 2, .int .i64 0, .string (bsOf salt), .slice none 0 0] := ⟨_, rfl⟩
    rw [← hD28]
    obtain ⟨w8, hw8⟩ : ∃ w8, w8 = w7.alloc (.cells D28 64 (0, 0)) := ⟨_, rfl⟩
    rw [← hw8]
    have u8 : Up w7 w8 := by rw [hw8]; exact (Up.refl w7).alloc _
    obtain ⟨L8, hL8⟩ : ∃ L, L = (ints (headNs o)).map elIt ++ [lstEl p2 n2 c2 (ints (lotNs o.lots)), elIt (.inr (bsOf salt))] := ⟨_, rfl⟩
    have hl8 : L8.length = 7 := by rw [hL8]; rfl
    have x8 : OwnV w8 b8 (.slice (some ⟨b8, 0, none⟩) L8.length L8.length) L8 := ownV_block (D := D28) (by rw [hw8]; exact heap_new hb8) (by rw [hD28, hL8]; rfl) (by rw [hD28, hl8]; rfl) (by rw [hl8]; unfold maxLen; omega)
    rw [hl8] at x8
    have V8 : Hid (Up wr w8) := Up.trans V7.out u8
    have O8 := Lib.hid (O7.out.up u8)
    have X8 := Lib.hid x8
    have HL8 := Lib.hid hL8
    refine hK _ _ (inC V8.out) ?_
    clear hK K u8 O7 hw8 hD28 hb8 x8 hL8 hl8
    refine wpScript_chain (fun K hK => ?_)
    go_simp
    refine (rc_List (some ⟨b8, 0, none⟩) 7 7 w8).mono ?_
    rintro e w9 ⟨rfl, u9⟩
    have V9 : Hid (Up wr w9) := Up.trans V8.out u9
    have O9 := Lib.hid (O8.out.up u9)
    have X9 := Lib.hid (X8.out.up u9)
    refine hK _ _ (inC V9.out) ?_
    clear hK K u9 O8 X8
    have hE : Calls Tryd.prog 30 #[.agg #[.int .i64 3, .int .i64 0, .string ⟨#[]⟩, .slice (some ⟨b8, 0, none⟩) 7 7]] w9 (fun e w' => ∃ pv cv, e = .returned (.tuple #[.slice pv (encMsg o salt).length cv, .int .i64 0]) ∧ SB w' pv (encMsg o salt) ∧ (encMsg o salt).length ≤ cv ∧ cv ≤ maxLen ∧ Up w9 w') := by
      obtain ⟨p0, c0, e0, hels, hlow⟩ := X9.out.form
      injection e0 with e1 e2 e3
      subst e1 e3
      have hok := OK.out
      have hl : L8.length = 7 := by rw [HL8.out]; rfl
      have hcl := encIts_len (lotNs o.lots)
      have hll := lotNs_length o.lots
      have h8 := hok.len
      have he9 : L8.map El.e = (headNs o).map Enc.encI ++ [encIts (ints (lotNs o.lots)), Enc.encT salt] := by
        rw [HL8.out, List.map_append, els_map, ints, List.map_map]
        have : elIt (.inr (bsOf salt)) = ⟨2, 0, bsOf salt, none, 0, 0, 0, Enc.encT salt⟩ := by simp [elIt, bsOf]
        rw [this]; rfl
      have hcode : 3 :: (Enc.num L8.length ++ encEls L8) = encMsg o salt := by
        have : Enc.encL (L8.map El.e) = encMsg o salt := by rw [he9]; rfl
        rw [← this, Enc.encL, encEls, List.length_map]
      have hml := encMsg_len hok HS16.out
      have := rc_encodeL (some ⟨b8, 0, none⟩) 7 L8 w9 (fun el hel => by
        rw [HL8.out] at hel
        rcases List.mem_append.1 hel with hel | hel
        · obtain ⟨x, hx, rfl⟩ := List.mem_map.1 hel
          exact ⟨elIt_encAs w9 x (ints_ok (headNs_ok hok) x hx), elIt_formR w9 x, by cases x <;> exact Nat.zero_le _⟩
        · simp only [List.mem_cons, List.not_mem_nil, or_false] at hel
          rcases hel with rfl | rfl
          · exact rel_list (n := n2) O9.out (ints_ok (lotNs_ok hok)) (by simp [ints]; omega) (by
              rw [encIts, Enc.encL, List.length_cons, List.length_append] at hcl; omega)
          · exact ⟨elIt_encAs w9 (.inr (bsOf salt)) (by show (bsOf salt).size ≤ 1048576; rw [HES.out]; omega), elIt_formR w9 _, Nat.zero_le _⟩) hels (by omega) (by
          have : (encEls L8).length ≤ (encMsg o salt).length := by rw [← hcode, List.length_cons, List.length_append]; omega
          omega)
      rw [hcode, hl] at this
      refine this.mono ?_
      rintro e w10 ⟨v, rfl, ov, uv⟩
      obtain ⟨pv, cv, rfl, g1, g2, g3⟩ := ov.form
      exact ⟨pv, cv, rfl, g3, g1, g2, uv⟩
    have HE := Lib.hid hE
    clear hE HL8 O9 X9 V6 V7 V8 Vw1 Vw2 Vw3 Vw4 Vw5 OK
    obtain ⟨M, hM⟩ : ∃ M, M = encMsg o salt := ⟨_, rfl⟩
    rw [← hM] at HE
    have HMM := Lib.hid hM
    clear hM
    refine wpScript_chain (fun K hK => ?_)
    go_simp
    refine HE.out.mono ?_
    rintro e w10 ⟨pv, cv, rfl, g3, g1, g2, u10⟩
    have G1 := Lib.hid g1
    have G2 := Lib.hid g2
    have G3 := Lib.hid g3
    have V10 : Hid (Up wr w10) := Up.trans V9.out u10
    refine hK _ _ (inC V10.out) ?_
    clear hK K g1 g2 g3 u10 HE
    repeat (with_reducible refine wpScript_still (fun K hK => ?_); go_simp; with_reducible refine hK _ ?_; clear hK K)
    refine wpScript_nil ?_
    have UF : Hid (Up w w10) := Up.trans UW.out V10.out
    clear V10 UW V9 XR
    go_wp2_with fail
    go_ret2
    exact ⟨pv, cv, by rw [← HMM.out] <;> rfl, by rw [← HMM.out]; exact G3.out, by rw [← HMM.out]; exact G1.out, G2.out, UF.out⟩

theorem rmessage_calls (a : OfA) (salt : List UInt8) (sp : Option Addr) (sc : Nat) (w : World) (h : LtsAt w a) (hsb : SB w sp salt) : Calls Tryd.prog 13 #[.agg (ofCells a).toArray, .slice sp salt.length sc] w (RetD w (msgL a.o salt) (msgE a.o salt)) := by
  unfold msgL
  by_cases hb : msgE a.o salt = 0
  · rw [if_pos hb, hb]; exact rmessage_good a salt sp sc w h hsb hb
  · rw [if_neg hb]; exact rmessage_bad a salt sp sc w h hb

end Go.Proofs.YtmifpokafaiebaaDoor
