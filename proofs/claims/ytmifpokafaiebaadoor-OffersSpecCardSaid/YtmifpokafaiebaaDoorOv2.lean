/- the reference's Int, Text, List, Ints; its Check of an offer. -/
import Derived.Test.YtmifpokafaiebaaDoorOv1
namespace Go.Proofs.YtmifpokafaiebaaDoor
open Go Go.RowKit
set_option linter.unusedVariables false
set_option maxRecDepth 100000

theorem rc_Int (n : Int) (w : World) : Calls Tryd.prog 32 #[.int .i64 n] w fun e w' => e = .returned (.agg #[.int .i64 1, .int .i64 n, .string ⟨#[]⟩, .slice none 0 0]) ∧ Up w w' := by
  go_enter Tryd.func32, Tryd.ntmps32
  go_wp2
  refine bodyPost_nm ?_
  intro W hW
  have hx : W.heap[w.heap.size]? = some (.cells #[.int .i64 1, .int .i64 n, .string ⟨#[]⟩, .slice none 0 0] 64 (0, 0)) := by rw [hW, heap_new rfl]
  have U : Up w W := by rw [hW]; exact (Up.refl w).alloc _
  have q0 : W.cell? ⟨w.heap.size, 0, none⟩ = some (.int .i64 1) := by rw [cell_of_row W w.heap.size 0 _ _ _ hx]; rfl
  have q1 : W.cell? ⟨w.heap.size, 1, none⟩ = some (.int .i64 n) := by rw [cell_of_row W w.heap.size 1 _ _ _ hx]; rfl
  have q2 : W.cell? ⟨w.heap.size, 2, none⟩ = some (.string ⟨#[]⟩) := by rw [cell_of_row W w.heap.size 2 _ _ _ hx]; rfl
  have q3 : W.cell? ⟨w.heap.size, 3, none⟩ = some (.slice none 0 0) := by rw [cell_of_row W w.heap.size 3 _ _ _ hx]; rfl
  clear hW
  refine bodyPost_ret (v := .agg #[.int .i64 1, .int .i64 n, .string ⟨#[]⟩, .slice none 0 0]) (by simp [results, Tryd.results32, go_sem, q0, q1, q2, q3]) rfl ⟨rfl, U⟩
theorem rc_Text (s : ByteArray) (w : World) : Calls Tryd.prog 34 #[.string s] w fun e w' => e = .returned (.agg #[.int .i64 2, .int .i64 0, .string s, .slice none 0 0]) ∧ Up w w' := by
  go_enter Tryd.func34, Tryd.ntmps34
  go_wp2
  refine bodyPost_nm ?_
  intro W hW
  have hx : W.heap[w.heap.size]? = some (.cells #[.int .i64 2, .int .i64 0, .string s, .slice none 0 0] 64 (0, 0)) := by rw [hW, heap_new rfl]
  have U : Up w W := by rw [hW]; exact (Up.refl w).alloc _
  have q0 : W.cell? ⟨w.heap.size, 0, none⟩ = some (.int .i64 2) := by rw [cell_of_row W w.heap.size 0 _ _ _ hx]; rfl
  have q1 : W.cell? ⟨w.heap.size, 1, none⟩ = some (.int .i64 0) := by rw [cell_of_row W w.heap.size 1 _ _ _ hx]; rfl
  have q2 : W.cell? ⟨w.heap.size, 2, none⟩ = some (.string s) := by rw [cell_of_row W w.heap.size 2 _ _ _ hx]; rfl
  have q3 : W.cell? ⟨w.heap.size, 3, none⟩ = some (.slice none 0 0) := by rw [cell_of_row W w.heap.size 3 _ _ _ hx]; rfl
  clear hW
  refine bodyPost_ret (v := .agg #[.int .i64 2, .int .i64 0, .string s, .slice none 0 0]) (by simp [results, Tryd.results34, go_sem, q0, q1, q2, q3]) rfl ⟨rfl, U⟩
theorem rc_List (p : Option Addr) (n c : Nat) (w : World) : Calls Tryd.prog 31 #[.slice p n c] w fun e w' => e = .returned (.agg #[.int .i64 3, .int .i64 0, .string ⟨#[]⟩, .slice p n c]) ∧ Up w w' := by
  go_enter Tryd.func31, Tryd.ntmps31
  go_wp2
  refine bodyPost_nm ?_
  intro W hW
  have hx : W.heap[w.heap.size]? = some (.cells #[.int .i64 3, .int .i64 0, .string ⟨#[]⟩, .slice p n c] 64 (0, 0)) := by rw [hW, heap_new rfl]
  have U : Up w W := by rw [hW]; exact (Up.refl w).alloc _
  have q0 : W.cell? ⟨w.heap.size, 0, none⟩ = some (.int .i64 3) := by rw [cell_of_row W w.heap.size 0 _ _ _ hx]; rfl
  have q1 : W.cell? ⟨w.heap.size, 1, none⟩ = some (.int .i64 0) := by rw [cell_of_row W w.heap.size 1 _ _ _ hx]; rfl
  have q2 : W.cell? ⟨w.heap.size, 2, none⟩ = some (.string ⟨#[]⟩) := by rw [cell_of_row W w.heap.size 2 _ _ _ hx]; rfl
  have q3 : W.cell? ⟨w.heap.size, 3, none⟩ = some (.slice p n c) := by rw [cell_of_row W w.heap.size 3 _ _ _ hx]; rfl
  clear hW
  refine bodyPost_ret (v := .agg #[.int .i64 3, .int .i64 0, .string ⟨#[]⟩, .slice p n c]) (by simp [results, Tryd.results31, go_sem, q0, q1, q2, q3]) rfl ⟨rfl, U⟩


set_option maxHeartbeats 4000000 in
theorem rints_calls (p : Option Addr) (k c : Nat) (ns : List Int) (w : World) (hk : k = ns.length) (hk2 : k ≤ 100) (hc : k ≤ c) (hcm : c ≤ maxLen) (hr : RowAt w p 1 iEnc ns) :
    Calls Tryd.prog 33 #[.slice p k c] w fun e w' => ∃ sl, e = .returned (.agg #[.int .i64 3, .int .i64 0, .string ⟨#[]⟩, sl]) ∧ OwnV w' w.heap.size sl ((ints ns).map elIt) ∧ Up w w' := by
  have HK := Lib.hid hk
  have HR := Lib.hid hr
  clear hk hr
  go_enter Tryd.func33, Tryd.ntmps33
  go_wp2_with fail
  refine wp_named ?_
  intro W1 hW1
  obtain ⟨b0, hb0⟩ : ∃ bt, bt = w.heap.size := ⟨_, rfl⟩
  obtain ⟨bt, hbt⟩ : ∃ bt, bt = b0 + 1 := ⟨_, rfl⟩
  rw [← hb0, ← hbt]
  have h1 : Hid (∃ v, W1.heap[bt]? = some (.cells #[.int .i64 3, .int .i64 0, .string ⟨#[]⟩, v] 64 (0, 0)) ∧ OwnV W1 (bt + 1) v ((ints (ns.take 0)).map elIt)) := by
    refine ⟨.slice none 0 0, ?_, OwnV.nil _ _⟩
    rw [hW1]; exact heap_new (by simp [hbt, hb0])
  have g0 : W1.heap[b0]? = some (.cells #[.int .i64 0, .int .i64 0, .string ⟨#[]⟩, .slice none 0 0] 64 (0, 0)) := by rw [hW1]; exact (heap_old (by simp [hb0])).trans (heap_new hb0)
  have u1 : Up w W1 := by rw [hW1]; exact ((Up.refl w).alloc _).alloc _
  have z1 : bt + 1 ≤ W1.heap.size := by have := (lt_of_block h1.out.choose_spec.1); omega
  have U1 := Lib.hid u1
  have G0 := Lib.hid g0
  have HB0 : Hid (w.heap.size = b0) := hb0.symm
  have HBT := Lib.hid hbt
  clear hW1 u1 hbt hb0 g0
  go_loopw [4] (fun v4 wq => ∃ i : Nat, i ≤ k ∧ v4 = .int .i64 i ∧ Hid (∃ v, wq.heap[bt]? = some (.cells #[.int .i64 3, .int .i64 0, .string ⟨#[]⟩, v] 64 (0, 0)) ∧ OwnV wq (bt + 1) v ((ints (ns.take i)).map elIt)) ∧ Hid (Below bt W1 wq) ∧ bt + 1 ≤ wq.heap.size)
    (fun v4 _ => k - (intOf v4).toNat)
  case atStart => exact ⟨0, by omega, rfl, h1, Below.refl _ _, z1⟩
  case round =>
    obtain ⟨i, hi, rfl, hV, hU, hz⟩ := hrel
    obtain ⟨v, hv, hown⟩ := hV.out
    have UW : Hid (Up w wr) := Below.trans U1.out (hU.out.mono (by have := HBT.out; have := HB0.out; omega))
    by_cases hlt : i < k
    · have hi2 : i < ns.length := by rw [← HK.out]; exact hlt
      obtain ⟨b, o, rfl, hpr⟩ := HR.out (by rintro rfl; simp at hi2)
      have hg := rangeAt_up (hpr i hi2) UW.out
      have hstep : (ints (ns.take (i + 1))).map elIt = (ints (ns.take i)).map elIt ++ [elIt (.inl ns[i])] := by
        unfold ints; rw [List.take_succ_eq_append_getElem hi2, List.map_append, List.map_append]; rfl
      have hlen : ((ints (ns.take i)).map elIt).length ≤ 65535 := by simp [ints]; omega
      have hcv : wr.cell? ⟨b, o + i, none⟩ = some (.int .i64 ns[i]) := by simpa using hg 0 _ rfl
      have HBL : Hid (b < w.heap.size) := block_lt_of_cell (hpr i hi2 0 _ rfl)
      have HV := Lib.hid hv
      have HO := Lib.hid hown
      have HSTEP := Lib.hid hstep
      have HLEN := Lib.hid hlen
      obtain ⟨n, hn⟩ : ∃ n, n = ns[i] := ⟨_, rfl⟩
      rw [← hn] at HSTEP hcv
      have HCV := Lib.hid hcv
      clear hV hv hown hstep hlen hn hg hpr hcv
      go_wp2_with fail
      refine wp_region_mixE_at 10 [0, 1, 2, 3, 4, 5] [6, 7, 8, 9, 10] (by kernel_rfl) (by kernel_rfl) (fun _ _ d _ _ h => by cases d <;> exact h) ?_
      intro W U hW
      obtain ⟨C, hC⟩ : ∃ C : World → Prop, C = fun W' => Up wr W' ∨ (W'.heap[bt]? = some (.cells #[.int .i64 3, .int .i64 0, .string ⟨#[]⟩, v] 64 (0, 0)) ∧ W'.cell? ⟨b, o + i, none⟩ = some (.int .i64 n)) := ⟨_, rfl⟩
      have CO : Hid (∀ y : InC C, y.w.heap[bt]? = some (.cells #[.int .i64 3, .int .i64 0, .string ⟨#[]⟩, v] 64 (0, 0)) ∧ y.w.cell? ⟨b, o + i, none⟩ = some (.int .i64 n)) := fun y => by
        rcases Eq.mp (congrFun hC y.w) y.h with h | h
        · exact ⟨(h.block _ (lt_of_block HV.out)).trans HV.out, cell_up HCV.out h⟩
        · exact h
      have CU : Hid (∀ W', Up wr W' → C W') := fun W' h => by rw [hC]; exact .inl h
      have CI : Hid (∀ W', W'.heap[bt]? = some (.cells #[.int .i64 3, .int .i64 0, .string ⟨#[]⟩, v] 64 (0, 0)) → W'.cell? ⟨b, o + i, none⟩ = some (.int .i64 n) → C W') := fun W' h1 h2 => by rw [hC]; exact .inr ⟨h1, h2⟩
      have UW2 : Hid (Up wr W) := U
      refine ⟨C, CU.out W U, ?_⟩
      haveI : Nonempty (InC C) := ⟨⟨W, CU.out W U⟩⟩
      have k1 : ∀ y : InC C, y.w.cell? ⟨bt, 3, none⟩ = some v := fun y => by rw [cell_of_row y.w bt 3 _ _ _ (CO.out y).1]; rfl
      have k2 : ∀ y : InC C, y.w.cell? ⟨b, o + i, none⟩ = some (.int .i64 n) := fun y => (CO.out y).2
      clear hC hW U
      simp only [pick, List.getElem?_cons_zero, List.getElem?_cons_succ]
      repeat (refine wpStillC_step (fun K hK => ?_); go_simp; refine hK _ ?_; clear hK K)
      refine wpStillC_nil ?_
      clear k1 k2
      refine wpChainE_step (fun K hK => ?_)
      go_simp
      refine (rc_Int n W).mono ?_
      rintro e w1 ⟨rfl, u1⟩
      have V1 : Hid (Up wr w1) := Up.trans UW2.out u1
      refine hK _ _ (inC (CU.out w1 V1.out)) ?_
      clear hK K u1
      refine wpChainE_step (fun K hK => ?_)
      go_simp
      have ha : Up wr (w1.alloc (Obj.cells #[.int .i64 1, .int .i64 n, .string ⟨#[]⟩, .slice none 0 0] 64 (0, 0))) := V1.out.alloc _
      have hr2 : RowAt (w1.alloc (Obj.cells #[.int .i64 1, .int .i64 n, .string ⟨#[]⟩, .slice none 0 0] 64 (0, 0))) (some ⟨w1.heap.size, 0, none⟩) 4 elEnc [elIt (.inl n)] := rowAt_block (D := #[.int .i64 1, .int .i64 n, .string ⟨#[]⟩, .slice none 0 0]) (fun x _ => elEnc_len x) rfl (heap_new rfl)
      obtain ⟨w2, hw2⟩ : ∃ w2, w2 = w1.alloc (Obj.cells #[.int .i64 1, .int .i64 n, .string ⟨#[]⟩, .slice none 0 0] 64 (0, 0)) := ⟨_, rfl⟩
      rw [← hw2] at ha hr2 ⊢
      have V2 := Lib.hid ha
      have R2 := Lib.hid hr2
      refine hK _ _ (inC (CU.out w2 V2.out)) ?_
      clear hK K ha hr2 hw2
      have HOW : Hid (OwnR w2 (bt + 1) 64 4 elEnc v ((ints (ns.take i)).map elIt)) := ownV_iff.1 (HO.out.up V2.out)
      refine wpChainE_want rfl (fun K hK => ?_)
      refine wp_appR (.tmp 13) (.tmp 19) eltVal (by omega) rfl rfl (bt + 1) _ ((ints (ns.take i)).map elIt) _ 1 1 [elIt (.inl n)] rfl rfl rfl (fun x _ => elEnc_len x) (fun x _ => elEnc_one x) HOW.out R2.out (by have := HLEN.out; simp at this ⊢; omega) (Nat.le_trans hz V2.out.size) ?_
      intro p' m' d' w7 o7 b7 g7
      have nb : ∀ g, v.ownBlock = some g → g ≠ bt := fun g hg => by have := HO.out.block g hg; omega
      have x7 : w7.heap[bt]? = some (.cells #[.int .i64 3, .int .i64 0, .string ⟨#[]⟩, v] 64 (0, 0)) := (b7.block bt (by omega)).trans ((V2.out.block _ (lt_of_block HV.out)).trans HV.out)
      have n7 : ∀ g, (Value.slice p' m' d').ownBlock = some g → g ≠ bt := fun g hg => by have := ownV_iff.2 o7 |>.block g hg; omega
      have X7 := Lib.hid x7
      have N7 := Lib.hid n7
      have O7 := Lib.hid o7
      have B7 : Hid (Below (bt + 1) wr w7) := Below.trans (V2.out.mono hz) b7
      have cv7 : w7.cell? ⟨b, o + i, none⟩ = some (.int .i64 n) := (B7.out.cell (p := ⟨b, o + i, none⟩) (by show b < bt + 1; have := HBL.out; have := HB0.out; have := HBT.out; omega)).trans HCV.out
      have CV7 := Lib.hid cv7
      refine hK _ _ (inC (CI.out w7 x7 cv7)) ?_
      clear hK K o7 b7 g7 nb x7 n7 cv7 HOW R2 V1 V2
      refine wpChainE_step (fun K hK => ?_)
      go_simp
      refine hK _ _ (inC (CI.out w7 X7.out CV7.out)) ?_
      clear hK K
      have f1 : w7.cell? ⟨bt, 3, none⟩ = some v := by rw [cell_of_row w7 bt 3 _ _ _ X7.out]; rfl
      have f2 : w7.frozen? ⟨bt, 3, none⟩ = false := free_row X7.out 3
      refine wpChainE_last rfl (fun K hK => ?_)
      go_simp
      refine hK _ _ ?_
      clear hK K
      obtain ⟨W9, hW9⟩ : ∃ W9, W9 = w7.setCell ⟨bt, 3, none⟩ (.slice p' m' d') := ⟨_, rfl⟩
      rw [← hW9]
      have x9 : W9.heap[bt]? = some (.cells #[.int .i64 3, .int .i64 0, .string ⟨#[]⟩, .slice p' m' d'] 64 (0, 0)) := by rw [hW9, heap_setCell_same w7 bt 3 _ _ _ X7.out]; rfl
      have o9 : OwnV W9 (bt + 1) (.slice p' m' d') ((ints (ns.take (i + 1))).map elIt) := by
        rw [HSTEP.out]
        exact ownV_iff.2 (O7.out.kept fun g hg => by rw [hW9]; exact heap_setCell_other _ _ _ _ (N7.out g hg))
      have b9 : Below bt W1 W9 := by
        have a := hU.out.trans (B7.out.mono (Nat.le_succ _))
        rw [hW9]
        exact ⟨a.os, a.tape, a.output, by simpa [World.setCell] using a.size, fun j hj => (heap_setCell_other _ _ _ _ (by show j ≠ bt; omega)).trans (a.block j hj)⟩
      have z9 : bt + 1 ≤ W9.heap.size := by have := lt_of_block x9; omega
      have X9 : Hid (∃ v, W9.heap[bt]? = some (.cells #[.int .i64 3, .int .i64 0, .string ⟨#[]⟩, v] 64 (0, 0)) ∧ OwnV W9 (bt + 1) v ((ints (ns.take (i + 1))).map elIt)) := ⟨_, x9, o9⟩
      have B9 := Lib.hid b9
      clear hW9 x9 o9 b9 f1 f2
      go_wp2_with fail
      exact ⟨⟨i + 1, by omega, by go_num, X9, B9, z9⟩, by simp [intOf]; omega⟩
    · have him : i = k := by omega
      subst him
      have ho : OwnV wr (bt + 1) v ((ints ns).map elIt) := by
        have := hown
        rw [HK.out, List.take_length] at this
        exact this
      obtain ⟨pv, cv', rfl, -, -⟩ := ho.form
      obtain ⟨nv, hnv⟩ : ∃ n, n = ((ints ns).map elIt).length := ⟨_, rfl⟩
      rw [← hnv] at ho hv
      have HO := Lib.hid ho
      have HV := Lib.hid hv
      have G0R := Lib.hid ((hU.out.block b0 (by have := HBT.out; omega)).trans G0.out)
      clear hown hV hv ho hnv h1
      go_wp2_with (first | (refine wpList_load_arr rfl 64 (.tmp 3) rfl bt 0 rfl #[.int .i64 3, .int .i64 0, .string ⟨#[]⟩, (.slice pv nv cv')] _ (rangeAt_row HV.out) rfl rfl (by rfl) ?_) | (refine wpList_store_row rfl 64 (.tmp 2) (.tmp 22) rfl b0 #[.int .i64 3, .int .i64 0, .string ⟨#[]⟩, .slice pv nv cv'] rfl rfl 64 _ G0R.out (by rfl) (by rfl) (by simp [Value.oneCell']) ?_))
      have hst := setRow_heap wr b0 _ #[.int .i64 3, .int .i64 0, .string ⟨#[]⟩, .slice pv nv cv'] _ _ G0R.out
      refine bodyPost_ret (results_cell_row rfl _ _ b0 _ #[.int .i64 3, .int .i64 0, .string ⟨#[]⟩, .slice pv nv cv'] (0, 0) _ rfl hst rfl rfl (by rfl)) rfl ⟨_, rfl, ?_, ?_⟩
      · have := HO.out.kept (w' := wr.setRow b0 #[.int .i64 3, .int .i64 0, .string ⟨#[]⟩, .slice pv nv cv']) fun g hg => setRow_other _ _ _ _ (by have := HO.out.block g hg; have := HBT.out; omega)
        exact ownV_less this (by have := HBT.out; have := HB0.out; omega)
      · exact below_setRow UW.out (Nat.le_of_eq HB0.out) _

end Go.Proofs.YtmifpokafaiebaaDoor
