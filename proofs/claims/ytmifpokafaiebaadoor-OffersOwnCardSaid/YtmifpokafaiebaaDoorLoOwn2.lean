/- the law OffersOwn: the law. -/
import Derived.Test.YtmifpokafaiebaaDoorLoOwn
namespace Go.Proofs.YtmifpokafaiebaaDoor
open Go Go.RowKit
set_option linter.unusedVariables false
set_option maxRecDepth 100000

theorem msgE_chk {o : Of} {s : List UInt8} (h : msgE o s = 0) : chkO o = 0 := by
  unfold msgE at h
  by_cases hc : chkO o = 0
  · exact hc
  · rw [if_neg hc] at h; exact absurd h hc
theorem own_each {sls : List SlA} {xs : List OpA} {o : Of} (h : o ∈ revO sls xs) : chkO o = 0 ∧ sealedB o sls xs = true := by
  obtain ⟨x, hx, rfl, k, hk, hks⟩ := revO_from h
  obtain ⟨hm, rfl⟩ := opKey_ok hk
  refine ⟨msgE_chk hm, ?_⟩
  obtain ⟨s, hs, he⟩ := List.mem_map.1 hks
  have h1 : s.farm = x.a.o.farm := congrArg Prod.fst he
  have h2 : s.dig = cmtB x.a.o x.salt := congrArg Prod.snd he
  unfold sealedB
  rw [List.any_eq_true]
  refine ⟨x, hx, ?_⟩
  unfold sealX sealIn
  rw [decide_eq_true hm, decide_eq_true rfl, Bool.true_and, Bool.true_and, List.any_eq_true]
  exact ⟨s, hs, by rw [decide_eq_true h1, cmtL, if_pos hm, decide_eq_true h2]; rfl⟩
theorem own_nos (sls : List SlA) (xs : List OpA) : ∀ i j (hi : i < (revO sls xs).length) (hj : j < (revO sls xs).length), j < i → (revO sls xs)[j].no ≠ (revO sls xs)[i].no := by
  have hp : (revO sls xs).Pairwise (fun a b => a.no ≠ b.no) := by
    unfold revO
    by_cases hb : revE sls xs = 0
    · rw [if_pos hb, List.pairwise_map]; exact outs_nodup opNo [] _
    · rw [if_neg hb]; exact List.Pairwise.nil
  intro i j hi hj hlt
  exact List.pairwise_iff_getElem.1 hp j i hj hi hlt
theorem own_sil (sls : List SlA) (xs : List OpA) : (∀ i (hi : i < (revS sls xs).length), 0 ≤ (revS sls xs)[i] ∧ (revS sls xs)[i] < sls.length) ∧ ∀ i j (hi : i < (revS sls xs).length) (hj : j < (revS sls xs).length), j < i → (revS sls xs)[j] < (revS sls xs)[i] := by
  unfold revS
  by_cases hb : revE sls xs = 0
  · simp only [if_pos hb]
    obtain ⟨h1, h2⟩ := sil_bounds 0 (revSt sls xs)
    refine ⟨fun i hi => ?_, fun i j hi hj hlt => ?_⟩
    · rw [List.getElem_map]
      have := h1 _ (List.getElem_mem (l := sil 0 (revSt sls xs)) (by simpa using hi))
      rw [revSt_len] at this
      omega
    · rw [List.getElem_map, List.getElem_map]
      have := List.pairwise_iff_getElem.1 h2 j i (by simpa using hj) (by simpa using hi) hlt
      omega
  · simp only [if_neg hb]
    exact ⟨fun i hi => by simp at hi, fun i j hi => by simp at hi⟩
theorem own_len (sls : List SlA) (xs : List OpA) (h : revE sls xs = 0) : (revO sls xs).length + (revS sls xs).length ≤ sls.length ∧ sls.length ≤ (revS sls xs).length + xs.length := by
  unfold revO revS
  rw [if_pos h, if_pos h, List.length_map, List.length_map]
  have h1 := outs_length opNo [] (revSt sls xs)
  have h2 := sil_length 0 (revSt sls xs)
  have h3 : ((revSt sls xs).filter Option.isSome).length ≤ xs.length := stK_count opKey (sls.map slKey) xs
  rw [revSt_len] at h2
  omega

set_option maxHeartbeats 16000000 in
theorem lawOwn_calls (p q : Option Addr) (n c m d : Nat) (sls : List SlA) (xs : List OpA) (w : World) (hn : n = sls.length) (hm : m = xs.length) (hc : n ≤ c) (hcm : c ≤ maxLen) (hd : m ≤ d) (hdm : d ≤ maxLen)
    (hr : RowAt w p 2 slCells sls) (hsl : ∀ s ∈ sls, SlAt w s) (hx : RowAt w q 7 opCells xs) (hxa : ∀ x ∈ xs, OpAt w x) (t0 : Tab0 w) (t1 : Tab w) :
    Calls Tryd.prog 6 #[.slice p n c, .slice q m d] w fun e w' => e = .returned (.bool true) ∧ Up w w' := by
  have HT : Hid (Tabs w) := ⟨t0, t1⟩
  have SN := Lib.hid fun W (hu : Up w W) => sane44_calls W (HT.out.up hu)
  have FW := Lib.hid fun W (hu : Up w W) => rfew_calls p q n c m d sls xs W hn hm hc hcm hd hdm (hr.kept2 hu) (hx.kept2 hu)
  have RP := Lib.hid fun W (hu : Up w W) => reveal_calls p q n c m d sls xs W hn hm hc hcm hd hdm (hr.kept2 hu) (fun s hs => (hsl s hs).up hu) (hx.kept2 hu) (fun x hx => (hxa x hx).up hu) (HT.out.up hu)
  have SD : Hid (fewB sls xs = true → ∀ (a : OfA) W, Up w W → LtsAt W a → Calls Tryd.prog 25 #[.agg (ofCells a).toArray, .slice p n c, .slice q m d] W fun e w' => e = .returned (.bool (sealedB a.o sls xs)) ∧ Up W w') := fun hf a W hu ha => sealed_calls a p q n c m d sls xs W hn hm hc hcm hd hdm (by have := (few_len hf).1; omega) (by have := (few_len hf).2; omega) (hr.kept2 hu) (fun s hs => (hsl s hs).up hu) (hx.kept2 hu) (fun x hx => (hxa x hx).up hu) (HT.out.up hu) ha (few_small hf)
  have FL : Hid (fewB sls xs = true → (revO sls xs).length ≤ 100 ∧ (revS sls xs).length ≤ 100 ∧ n ≤ 100 ∧ m ≤ 100) := fun h => ⟨Nat.le_trans (revO_len _ _) (few_len h).1, Nat.le_trans (revS_len _ _) (few_len h).1, by have := (few_len h).1; omega, by have := (few_len h).2; omega⟩
  have PE : Hid (revE sls xs ≠ 0 → (revO sls xs).length = 0 ∧ (revS sls xs).length = 0) := fun h => by unfold revO revS; rw [if_neg h, if_neg h]; exact ⟨rfl, rfl⟩
  have PZ : Hid (revE sls xs = 0 → (revO sls xs).length + (revS sls xs).length ≤ n ∧ n ≤ (revS sls xs).length + m) := fun h => by rw [hn, hm]; exact own_len sls xs h
  have PS := Lib.hid (own_sil sls xs)
  rw [← hn] at PS
  obtain ⟨fw, hfw⟩ : ∃ fw, fw = fewB sls xs := ⟨_, rfl⟩
  obtain ⟨nl, hnl⟩ : ∃ nl, nl = (revO sls xs).length := ⟨_, rfl⟩
  obtain ⟨ns, hns⟩ : ∃ ns, ns = (revS sls xs).length := ⟨_, rfl⟩
  obtain ⟨ee, hee⟩ : ∃ ee, ee = revE sls xs := ⟨_, rfl⟩
  rw [← hfw] at FW FL SD
  rw [← hnl, ← hns] at FL PE PZ
  rw [← hee] at RP PE PZ
  have HNL := Lib.hid hnl
  have HNS := Lib.hid hns
  clear hn hm hr hsl hx hxa t0 t1 HT hfw hnl hns hee hc hcm hd hdm
  go_enter Tryd.func6, Tryd.ntmps6
  go_wp2_with fail
  refine (SN.out w (Up.refl w)).mono ?_
  rintro e W1 ⟨rfl, u1⟩
  have U1 : Hid (Up w W1) := u1
  clear u1 SN
  go_wp2_with fail
  refine (FW.out W1 U1.out).mono ?_
  rintro e W2 ⟨rfl, u2⟩
  have U2 : Hid (Up w W2) := Up.trans U1.out u2
  clear u2 FW
  cases fw
  case false =>
    go_wp2_with fail
    go_ret
    exact ⟨rfl, U2.out⟩
  have FL2 := Lib.hid (FL.out rfl)
  have SD2 := Lib.hid (SD.out rfl)
  clear FL SD
  go_wp2_with fail
  refine (RP.out W2 U2.out).mono ?_
  intro e W3 hR
  obtain ⟨p1, k1, q1, j1, A1, he, r1⟩ := hR.lit HNL.out.symm HNS.out.symm
  subst he
  have U3 : Hid (Up w W3) := Up.trans U2.out r1.up
  have R1 := Lib.hid r1
  clear hR r1 RP U2 U1
  by_cases h0 : ee = 0
  case neg =>
    have d0 : (ee != 0) = true := by rw [bne_iff_ne]; exact h0
    obtain ⟨e1, e2⟩ := PE.out h0
    subst e1 e2
    have w0 : IntKind.i64.wrap 0 = 0 := by decide
    clear h0 PE PZ
    go_wp2_with fail
    go_ret
    exact ⟨rfl, U3.out⟩
  subst h0
  have d0 : ((0 : Int) != 0) = false := by simp
  have PZ2 := Lib.hid (PZ.out rfl)
  have hn1 : nl ≤ 100 := FL2.out.1
  have hs1 : ns ≤ 100 := FL2.out.2.1
  have hnk : nl ≤ k1 := R1.out.c1
  have hnj : ns ≤ j1 := R1.out.d1
  clear PE PZ
  go_wp2_with fail
  go_loopw [37] (fun v37 wq => ∃ i : Nat, i ≤ nl ∧ v37 = .int .i64 i ∧ Hid (Up W3 wq)) (fun v37 _ => nl - (intOf v37).toNat)
  case atStart => exact ⟨0, by omega, rfl, Up.refl _⟩
  case round =>
    obtain ⟨i, hi, rfl, HU⟩ := hrel
    by_cases hlt : i < nl
    case pos =>
      have hiA : i < A1.length := by rw [R1.out.len]; exact hlt
      have hiR : i < (revO sls xs).length := by rw [← HNL.out]; exact hlt
      obtain ⟨b, of, hpe, hpr⟩ := R1.out.row (by rintro h; rw [h] at hiA; simp at hiA)
      subst hpe
      have hao : A1[i].o = (revO sls xs)[i] := by
        have := R1.out.eq
        have e2 : (A1.map OfA.o)[i]? = (revO sls xs)[i]? := by rw [this]
        rw [List.getElem?_map, List.getElem?_eq_getElem hiA, List.getElem?_eq_getElem hiR] at e2
        injection e2
      have hown := own_each (sls := sls) (xs := xs) (o := A1[i].o) (by rw [hao]; exact List.getElem_mem hiR)
      have PR : Hid (∀ j (hj : j < i), ∃ a : OfA, W3.rangeAt b (of + j * 6) (ofCells a) ∧ (a.o.no == A1[i].o.no) = false) := fun j hj => by
        have hjA : j < A1.length := by omega
        have hjR : j < (revO sls xs).length := by omega
        refine ⟨A1[j], hpr j hjA, ?_⟩
        have e2 : (A1.map OfA.o)[j]? = (revO sls xs)[j]? := by rw [R1.out.eq]
        rw [List.getElem?_map, List.getElem?_eq_getElem hjA, List.getElem?_eq_getElem hjR] at e2
        injection e2 with e2
        rw [beq_eq_false_iff_ne, e2, hao]
        exact own_nos sls xs i j hiR hjR hj
      have g := rangeAt_up (hpr i hiA) HU.out
      have hal := R1.out.lts _ (List.getElem_mem hiA)
      obtain ⟨a, haa⟩ : ∃ a, a = A1[i] := ⟨_, rfl⟩
      rw [← haa] at g hal hown PR
      have CK := Lib.hid fun W (hu : Up W3 W) => ofCheck_calls a W (hal.up hu)
      have SL := Lib.hid fun W (hu : Up W3 W) => SD2.out a W (Up.trans U3.out hu) (hal.up hu)
      rw [hown.1] at CK
      rw [hown.2] at SL
      obtain ⟨no, hno⟩ : ∃ no, no = a.o.no := ⟨_, rfl⟩
      rw [← hno] at PR
      obtain ⟨Y, hY⟩ : ∃ Y, Y = (ofCells a).toArray := ⟨_, rfl⟩
      have hYs : Y.size = 6 := by rw [hY]; rfl
      have hYc : Y.all (·.oneCell') = true := by
        rw [hY, Array.all_eq_true_iff_forall_mem]
        intro v hv
        exact ofCells_one _ v (by simpa using hv)
      have hY0 : Y[0]? = some (.int .i64 no) := by rw [hY, hno]; rfl
      rw [← hY] at CK SL
      have G : Hid (wr.rangeAt b (of + i * 6) Y.toList) := by show wr.rangeAt _ _ _; rw [hY]; exact g
      have HYs := Lib.hid hYs
      have HYc := Lib.hid hYc
      have HY0 := Lib.hid hY0
      clear hY hYs hYc hY0 hno g hal hown hao haa hpr hiA hiR
      go_wp2_with (first | ((with_reducible show wpList _ _ _ (Oper.mk _ (Op.load _ (Operand.tmp 40)) _ _ _ _ :: _) _ _); refine wpList_load_arr rfl 26 (.tmp 40) rfl b (of + i * 6) rfl Y _ G.out rfl rfl (by rw [HYs.out]; rfl) ?_) | ((with_reducible show wpList _ _ _ (Oper.mk _ (Op.store _ (Operand.tmp 9) (Operand.tmp 41)) _ _ _ _ :: _) _ _); refine wpList_store_row rfl 26 (.tmp 9) (.tmp 41) rfl _ Y rfl rfl 26 _ (heap_new rfl) (by rw [HYs.out]; rfl) (by rw [HYs.out]; rfl) HYc.out ?_; refine wpList_named ?_; intro W5 hW5; have u5 : Up wr W5 := (by rw [hW5]; exact below_setRow ((Up.refl wr).alloc _) (Nat.le_refl _) _); have x5 : W5.heap[wr.heap.size]? = some (.cells Y 26 (0, 0)) := (by rw [hW5]; exact setRow_heap _ _ _ _ _ _ (heap_new rfl)); have U5 := Lib.hid u5; have X5 := Lib.hid x5; clear hW5 u5 x5) | ((with_reducible show wpList _ _ _ (Oper.mk _ (Op.load _ (Operand.tmp 9)) _ _ _ _ :: _) _ _); refine wpList_load_arrG (by rfl) 26 (.tmp 9) rfl wr.heap.size 0 rfl Y _ (rangeAt_row X5.out) rfl rfl (by rw [HYs.out]; rfl) ?_))
      refine (CK.out W5 (Up.trans HU.out U5.out)).mono ?_
      rintro e W6 ⟨rfl, u6⟩
      have V6 : Hid (Up W3 W6) := Up.trans (Up.trans HU.out U5.out) u6
      have X6 := Lib.hid ((u6.block _ (lt_of_block X5.out)).trans X5.out)
      clear u6 CK X5 U5 G
      go_wp2_with (first | ((with_reducible show wpList _ _ _ (Oper.mk _ (Op.load _ (Operand.tmp 9)) _ _ _ _ :: _) _ _); refine wpList_load_arrG (by rfl) 26 (.tmp 9) rfl wr.heap.size 0 rfl Y _ (rangeAt_row X6.out) rfl rfl (by rw [HYs.out]; rfl) ?_))
      refine (SL.out W6 V6.out).mono ?_
      rintro e W7 ⟨rfl, u7⟩
      have V7 : Hid (Up W3 W7) := Up.trans V6.out u7
      have X7 := Lib.hid ((u7.block _ (lt_of_block X6.out)).trans X6.out)
      obtain ⟨b9, hb9⟩ : ∃ b, b = wr.heap.size := ⟨_, rfl⟩
      rw [← hb9] at X7 ⊢
      clear u7 SL X6 V6 HU hb9
      go_wp2_with fail
      have HIL : Hid (i < nl) := hlt
      go_loopw [56] (fun v56 wq => ∃ j : Nat, j ≤ i ∧ v56 = .int .i64 j ∧ Hid (Up W7 wq)) (fun v56 _ => i - (intOf v56).toNat)
      case atStart => exact ⟨0, by omega, rfl, Up.refl _⟩
      case round =>
        obtain ⟨j, hj, rfl, HV⟩ := hrel
        by_cases hlt2 : j < i
        case neg =>
          have U8 : Hid (Up W3 wr) := Up.trans V7.out HV.out
          go_wp2_with fail
          exact ⟨⟨i + 1, by omega, by go_num, U8⟩, by simp [intOf]; omega⟩
        obtain ⟨a2, g2, hne⟩ := PR.out j hlt2
        have g3 := rangeAt_up g2 (Up.trans V7.out HV.out)
        obtain ⟨Z, hZ⟩ : ∃ Z, Z = (ofCells a2).toArray := ⟨_, rfl⟩
        have hZs : Z.size = 6 := by rw [hZ]; rfl
        have hZc : Z.all (·.oneCell') = true := by
          rw [hZ, Array.all_eq_true_iff_forall_mem]
          intro v hv
          exact ofCells_one _ v (by simpa using hv)
        obtain ⟨no2, hno2⟩ : ∃ no, no = a2.o.no := ⟨_, rfl⟩
        rw [← hno2] at hne
        have hZ0 : Z[0]? = some (.int .i64 no2) := by rw [hZ, hno2]; rfl
        have G : Hid (wr.rangeAt b (of + j * 6) Z.toList) := by show wr.rangeAt _ _ _; rw [hZ]; exact g3
        have HZs := Lib.hid hZs
        have HZc := Lib.hid hZc
        have HZ0 := Lib.hid hZ0
        have XR : Hid (wr.heap[b9]? = some (.cells Y 26 (0, 0))) := (HV.out.block _ (lt_of_block X7.out)).trans X7.out
        have hjn : j < nl := by omega
        clear hZ hZs hZc hZ0 hno2 g2 g3
        go_wp2_with (first | ((with_reducible show wpList _ _ _ (Oper.mk _ (Op.load _ (Operand.tmp 58)) _ _ _ _ :: _) _ _); refine wpList_load_arr rfl 26 (.tmp 58) rfl b (of + j * 6) rfl Z _ G.out rfl rfl (by rw [HZs.out]; rfl) ?_) | ((with_reducible show wpList _ _ _ (Oper.mk _ (Op.store _ (Operand.tmp 11) (Operand.tmp 59)) _ _ _ _ :: _) _ _); refine wpList_store_row rfl 26 (.tmp 11) (.tmp 59) rfl _ Z rfl rfl 26 _ (heap_new rfl) (by rw [HZs.out]; rfl) (by rw [HZs.out]; rfl) HZc.out ?_; refine wpList_named ?_; intro W9 hW9; have u9 : Up wr W9 := (by rw [hW9]; exact below_setRow ((Up.refl wr).alloc _) (Nat.le_refl _) _); have x9 : W9.heap[wr.heap.size]? = some (.cells Z 26 (0, 0)) := (by rw [hW9]; exact setRow_heap _ _ _ _ _ _ (heap_new rfl)); (have l9 : W9.cell? ⟨wr.heap.size, 0, none⟩ = some (.int .i64 no2) := (cell_of_row W9 _ 0 _ _ _ x9).trans HZ0.out); (have l0 : W9.cell? ⟨b9, 0, none⟩ = some (.int .i64 no) := (cell_of_row W9 b9 0 _ _ _ ((u9.block _ (lt_of_block XR.out)).trans XR.out)).trans HY0.out); have U9 := Lib.hid u9; clear hW9 u9 x9))
        exact ⟨⟨j + 1, by omega, by go_num, Up.trans HV.out U9.out⟩, by simp [intOf]; omega⟩
    have U8 : Hid (Up W3 wr) := HU.out
    obtain ⟨W4, hW4⟩ : ∃ W4, W4 = wr := ⟨_, rfl⟩
    subst hW4
    clear HU
    go_wp2_with fail
    clear hlt hi
    go_loopw [69] (fun v69 wq => ∃ i : Nat, i ≤ ns ∧ v69 = .int .i64 i ∧ wq = W4) (fun v69 _ => ns - (intOf v69).toNat)
    case atStart => exact ⟨0, by omega, rfl, rfl⟩
    case round =>
      obtain ⟨i, hi, rfl, rfl⟩ := hrel
      by_cases hlt : i < ns
      case neg =>
        obtain ⟨sm, hsm⟩ : ∃ sm : Int, sm = (nl : Int) + (ns : Int) := ⟨_, rfl⟩
        obtain ⟨df, hdf⟩ : ∃ df : Int, df = (n : Int) - (ns : Int) := ⟨_, rfl⟩
        have e1 : IntKind.i64.wrap ((nl : Int) + (ns : Int)) = sm := by rw [hsm]; exact IntWalk.i64_in _ (by omega)
        have e2 : IntKind.i64.wrap ((n : Int) - (ns : Int)) = df := by rw [hdf]; exact IntWalk.i64_in _ (by have := FL2.out.2.2.1; omega)
        have e3 : decide (sm ≤ (n : Int)) = true := by have := PZ2.out.1; simp; omega
        have e4 : decide (df ≤ (m : Int)) = true := by have := PZ2.out.2; simp; omega
        clear hsm hdf
        go_wp2_with fail
        go_ret
        exact ⟨rfl, Up.trans U3.out U8.out⟩
      have hiR : i < (revS sls xs).length := by rw [← HNS.out]; exact hlt
      obtain ⟨b, of, hpe, hpr⟩ := R1.out.row2 (by rintro h; rw [h] at hiR; simp at hiR)
      subst hpe
      have g1 : wr.cell? ⟨b, of + i, none⟩ = some (.int .i64 (revS sls xs)[i]) := by have := rangeAt_up (hpr i hiR) U8.out 0 _ rfl; simpa using this
      have hv := PS.out.1 i hiR
      have PV : Hid (∀ j (hj : i = j + 1), ∃ u, wr.cell? ⟨b, of + j, none⟩ = some (.int .i64 u) ∧ u < (revS sls xs)[i]) := fun j hj => by
        have hjR : j < (revS sls xs).length := by omega
        refine ⟨(revS sls xs)[j], ?_, PS.out.2 i j hiR hjR (by omega)⟩
        have := rangeAt_up (hpr j hjR) U8.out 0 _ rfl; simpa using this
      obtain ⟨v, hvv⟩ : ∃ v, v = (revS sls xs)[i] := ⟨_, rfl⟩
      rw [← hvv] at g1 hv PV
      have d1 : decide (v < 0) = false := by simp; omega
      have d2 : decide ((n : Int) ≤ v) = false := by simp; omega
      clear hvv hpr hiR hv
      cases i with
      | zero =>
        clear PV
        have g1' : wr.cell? ⟨b, of, none⟩ = some (.int .i64 v) := by simpa using g1
        go_wp2_with fail
        exact ⟨⟨1, by omega, rfl, trivial⟩, by simp [intOf]; omega⟩
      | succ j =>
        obtain ⟨u, g2, huv⟩ := PV.out j rfl
        have d3 : decide (v ≤ u) = false := by simp; omega
        have ei : IntKind.i64.wrap (j : Int) = (j : Int) := IntWalk.i64_in _ (by omega)
        have ej : IntKind.i64.wrap ((j : Int) + 1 - 1) = (j : Int) := by rw [show (j : Int) + 1 - 1 = (j : Int) by omega]; exact ei
        have hjs : j < ns := by omega
        clear PV huv
        go_wp2_with fail
        exact ⟨⟨j + 1 + 1, by omega, by go_num, trivial⟩, by simp [intOf]; omega⟩

end Go.Proofs.YtmifpokafaiebaaDoor
