/- the law OffersFurther. -/
import Derived.Test.YtmifpokafaiebaaDoorFwA
import Derived.Test.YtmifpokafaiebaaDoorLb
import Derived.Test.YtmifpokafaiebaaDoorMix6
namespace Go.Proofs.YtmifpokafaiebaaDoor
open Go Go.RowKit
set_option linter.unusedVariables false
set_option maxRecDepth 100000

theorem Up.below2 {A B : World} {base : Nat} (h : Up A B) (hb : base ≤ A.heap.size) : Below base A B := Below.mono h hb

/-! ### plain -/
theorem revSt_snoc (sls : List SlA) (xs : List OpA) (x : OpA) : revSt sls (xs ++ [x]) = useK opKey (sls.map slKey) (revSt sls xs) x := by
  unfold revSt stK; rw [List.foldl_append]; rfl
theorem fur_e (sls : List SlA) (xs : List OpA) (x : OpA) (h : xs.length ≤ 20) : revE sls (xs ++ [x]) = revE sls xs := by
  unfold revE
  rw [List.length_append, List.length_singleton]
  by_cases hs : 64 < sls.length
  · rw [if_pos (.inl hs), if_pos (.inl hs)]
  · have h1 : ¬ (64 < sls.length ∨ 64 < xs.length + 1) := by omega
    have h2 : ¬ (64 < sls.length ∨ 64 < xs.length) := by omega
    rw [if_neg h1, if_neg h2]
theorem fur_rest (sls : List SlA) (xs : List OpA) (x : OpA) (h : xs.length ≤ 20) : (revO sls xs).filter (fun o => o.no != x.a.o.no) = (revO sls (xs ++ [x])).filter (fun o => o.no != x.a.o.no) := by
  unfold revO
  rw [fur_e sls xs x h]
  by_cases hb : revE sls xs = 0
  · rw [if_pos hb, if_pos hb, List.filter_map, List.filter_map]
    congr 1
    show (outs opNo [] (revSt sls xs)).filter (fun a => opNo a != opNo x) = (outs opNo [] (revSt sls (xs ++ [x]))).filter (fun a => opNo a != opNo x)
    rw [revSt_snoc]
    rcases useK_one opKey (sls.map slKey) (revSt sls xs) x with e | ⟨a, b, e1, e2⟩
    · rw [e]
    · rw [e2, e1]; exact (outs_insert opNo x a b []).symm
  · rw [if_neg hb, if_neg hb]
theorem fur_sil (sls : List SlA) (xs : List OpA) (x : OpA) (h : xs.length ≤ 20) : (revS sls (xs ++ [x])).length ≤ (revS sls xs).length ∧ (revS sls xs).length ≤ (revS sls (xs ++ [x])).length + 1 := by
  unfold revS
  rw [fur_e sls xs x h]
  by_cases hb : revE sls xs = 0
  · rw [if_pos hb, if_pos hb, List.length_map, List.length_map, revSt_snoc]
    rcases useK_one opKey (sls.map slKey) (revSt sls xs) x with e | ⟨a, b, e1, e2⟩
    · rw [e]; omega
    · rw [e2, e1]
      have := sil_length_one 0 a b x
      omega
  · rw [if_neg hb, if_neg hb]; exact ⟨Nat.le_refl _, Nat.le_succ _⟩

set_option maxHeartbeats 8000000 in
theorem rest_calls (A : List OfA) (x : OpA) (b5 : Nat) (p : Option Addr) (n c : Nat) (w : World) (hn : n = A.length) (hn1 : n ≤ 100) (hc : n ≤ c) (hcm : c ≤ maxLen) (hr : RowAt w p 6 ofCells A) (hb : OpB w b5 x) :
    Calls Tryd.prog 26 #[.slice p n c, .pointer (some ⟨b5, 0, none⟩)] w fun e w' => ∃ v, e = .returned v ∧ OwnR w' w.heap.size 26 6 ofCells v (A.filter fun a => a.o.no != x.a.o.no) ∧ Up w w' := by
  have HN := Lib.hid hn
  have HR := Lib.hid hr
  have HX := Lib.hid hb.blk
  obtain ⟨xn, hxn⟩ : ∃ xn, xn = x.a.o.no := ⟨_, rfl⟩
  have HX0 : Hid ((opCells x).toArray[0]? = some (.int .i64 xn)) := by show _ = _; rw [hxn]; rfl
  rw [← hxn]
  obtain ⟨bs, hbs⟩ : ∃ bs, bs = w.heap.size := ⟨_, rfl⟩
  rw [← hbs]
  have HBS : Hid (w.heap.size = bs) := hbs.symm
  clear hn hr hb hxn hbs
  go_enter Tryd.func26, Tryd.ntmps26
  go_wp2_with fail
  go_loopw [3, 8] (fun v3 v8 wq => ∃ i : Nat, i ≤ n ∧ v8 = .int .i64 i ∧ Hid (OwnR wq bs 26 6 ofCells v3 ((A.take i).filter fun a => a.o.no != xn)) ∧ Hid (Up w wq)) (fun _ v8 _ => n - (intOf v8).toNat)
  case atStart => exact ⟨0, by omega, rfl, OwnR.nil, Up.refl _⟩
  case round =>
    obtain ⟨i, hi, rfl, HO, HU⟩ := hrel
    by_cases hlt : i < n
    case neg =>
      have hO := HO.out
      rw [List.take_of_length_le (by rw [← HN.out]; omega)] at hO
      have HO2 := Lib.hid hO
      clear HO hO
      go_wp2_with fail
      go_ret
      exact ⟨_, rfl, HO2.out, HU.out⟩
    have hiA : i < A.length := by rw [← HN.out]; exact hlt
    obtain ⟨b, of, rfl, hpr⟩ := HR.out (by rintro rfl; simp at hiA)
    have g := rangeAt_up (hpr i hiA) HU.out
    have hst := List.take_succ_eq_append_getElem hiA
    obtain ⟨a, haa⟩ : ∃ a, a = A[i] := ⟨_, rfl⟩
    rw [← haa] at g hst
    obtain ⟨an, han⟩ : ∃ an, an = a.o.no := ⟨_, rfl⟩
    obtain ⟨bb, hbb⟩ : ∃ bb, bb = (an != xn) := ⟨_, rfl⟩
    have e1 : (an != xn) = bb := hbb.symm
    have hst2 : (A.take (i + 1)).filter (fun a => a.o.no != xn) = (A.take i).filter (fun a => a.o.no != xn) ++ (if bb then [a] else []) := by
      rw [hst, List.filter_append, hbb, han]
      congr 1
      rw [List.filter_cons, List.filter_nil]
    obtain ⟨Y, hY⟩ : ∃ Y, Y = (ofCells a).toArray := ⟨_, rfl⟩
    have hYs : Y.size = 6 := by rw [hY]; rfl
    have hYc : Y.all (·.oneCell') = true := by
      rw [hY, Array.all_eq_true_iff_forall_mem]
      intro v hv
      exact ofCells_one _ v (by simpa using hv)
    have hY0 : Y[0]? = some (.int .i64 an) := by rw [hY, han]; rfl
    have G : Hid (wr.rangeAt b (of + i * 6) Y.toList) := by show wr.rangeAt _ _ _; rw [hY]; exact g
    have HYs := Lib.hid hYs
    have HYc := Lib.hid hYc
    have HY0 := Lib.hid hY0
    have HYY := Lib.hid hY
    have HST := Lib.hid hst2
    have XB : Hid (wr.heap[b5]? = some (.cells (opCells x).toArray 44 (0, 0))) := (HU.out.block _ (lt_of_block HX.out)).trans HX.out
    have HL : Hid (((A.take i).filter fun a => a.o.no != xn).length ≤ 100) := Nat.le_trans (List.length_filter_le _ _) (by rw [List.length_take]; omega)
    obtain ⟨ii, zz, hii, hzz, hi1, hi2, hi3⟩ := eltOff.info
    have HII := Lib.hid hii
    have HZZ := Lib.hid hzz
    have HI1 := Lib.hid hi1
    clear hY hYs hYc hY0 hst hst2 haa han hbb g hpr hiA hii hzz hi1 hi2 hi3
    have HSB : Hid (bs ≤ wr.heap.size) := by show _ ≤ _; rw [← HBS.out]; exact HU.out.size
    cases bb
    case false =>
      go_wp2_with (first | ((with_reducible show wpList _ _ _ (Oper.mk _ (Op.load _ (Operand.tmp 10)) _ _ _ _ :: _) _ _); refine wpList_load_arr rfl 26 (.tmp 10) rfl b (of + i * 6) rfl Y _ G.out rfl rfl (by rw [HYs.out]; rfl) ?_) | ((with_reducible show wpList _ _ _ (Oper.mk _ (Op.store _ (Operand.tmp 5) (Operand.tmp 11)) _ _ _ _ :: _) _ _); refine wpList_store_row rfl 26 (.tmp 5) (.tmp 11) rfl _ Y rfl rfl 26 _ (heap_new rfl) (by rw [HYs.out]; rfl) (by rw [HYs.out]; rfl) HYc.out ?_; refine wpList_named ?_; intro W5 hW5; have u5 : Up wr W5 := (by rw [hW5]; exact below_setRow ((Up.refl wr).alloc _) (Nat.le_refl _) _); have x5 : W5.heap[wr.heap.size]? = some (.cells Y 26 (0, 0)) := (by rw [hW5]; exact setRow_heap _ _ _ _ _ _ (heap_new rfl)); (have l0 : W5.cell? ⟨wr.heap.size, 0, none⟩ = some (.int .i64 an) := (cell_of_row W5 _ 0 _ _ _ x5).trans HY0.out); (have l1 : W5.cell? ⟨b5, 0, none⟩ = some (.int .i64 xn) := (cell_of_row W5 b5 0 _ _ _ ((u5.block _ (lt_of_block XB.out)).trans XB.out)).trans HX0.out); have U5 := Lib.hid u5; have X5 := Lib.hid x5; clear hW5 u5 x5))
      exact ⟨⟨i + 1, by omega, by go_num, by (show OwnR _ _ _ _ _ _ _; rw [HST.out]; simpa using HO.out.up U5.out), Up.trans HU.out U5.out⟩, by simp [intOf]; omega⟩
    case true =>
      go_wp2_with (first | ((with_reducible show wpList _ _ _ (Oper.mk _ (Op.load _ (Operand.tmp 10)) _ _ _ _ :: _) _ _); refine wpList_load_arr rfl 26 (.tmp 10) rfl b (of + i * 6) rfl Y _ G.out rfl rfl (by rw [HYs.out]; rfl) ?_) | ((with_reducible show wpList _ _ _ (Oper.mk _ (Op.store _ (Operand.tmp 5) (Operand.tmp 11)) _ _ _ _ :: _) _ _); refine wpList_store_row rfl 26 (.tmp 5) (.tmp 11) rfl _ Y rfl rfl 26 _ (heap_new rfl) (by rw [HYs.out]; rfl) (by rw [HYs.out]; rfl) HYc.out ?_; refine wpList_named ?_; intro W5 hW5; have u5 : Up wr W5 := (by rw [hW5]; exact below_setRow ((Up.refl wr).alloc _) (Nat.le_refl _) _); have x5 : W5.heap[wr.heap.size]? = some (.cells Y 26 (0, 0)) := (by rw [hW5]; exact setRow_heap _ _ _ _ _ _ (heap_new rfl)); (have l0 : W5.cell? ⟨wr.heap.size, 0, none⟩ = some (.int .i64 an) := (cell_of_row W5 _ 0 _ _ _ x5).trans HY0.out); (have l1 : W5.cell? ⟨b5, 0, none⟩ = some (.int .i64 xn) := (cell_of_row W5 b5 0 _ _ _ ((u5.block _ (lt_of_block XB.out)).trans XB.out)).trans HX0.out); have U5 := Lib.hid u5; have X5 := Lib.hid x5; clear hW5 u5 x5) | ((with_reducible show wpList _ _ _ (Oper.mk _ (Op.load _ (Operand.tmp 5)) _ _ _ _ :: _) _ _); refine wpList_load_arr rfl 26 (.tmp 5) rfl wr.heap.size 0 rfl Y _ (rangeAt_row X5.out) rfl rfl (by rw [HYs.out]; rfl) ?_) | ((with_reducible show wpList _ _ _ (Oper.mk _ (Op.buildSlice _ _ _) _ _ _ _ :: _) _ _); refine wpList_buildSlice rfl 37 26 1 #[(0, .tmp 19)] rfl Y ii zz rfl HII.out HZZ.out (by rw [HI1.out]; decide) (by rw [HI1.out]; decide) (by (simp only [List.map_toArray, List.map_cons, List.map_nil]; exact fill_row (zz := zz) HI1.out (by omega) Y HYs.out)) ?_; refine wpList_named ?_; intro W8 hW8; (have u8 : Up W5 W8 := by (rw [hW8]; exact (Up.refl W5).alloc _)); (have r8 : RowAt W8 (some ⟨W5.heap.size, 0, none⟩) 6 ofCells [a] := rowAt_block (D := Y) (fun _ _ => rfl) (by (rw [HYY.out]; simp [fl])) (by (rw [hW8]; exact heap_new rfl))); have U8 := Lib.hid (Up.trans U5.out u8); have R8 := Lib.hid r8; clear hW8 u8 r8) | (at_builtin; refine wpList_appR rfl (.tmp 18) (.tmp 20) eltOff (by omega) rfl rfl bs _ ((A.take i).filter fun a => a.o.no != xn) _ 1 1 [a] rfl rfl rfl (fun x _ => ofCells_len x) (fun x _ => ofCells_one x) ?x1 ?x2 ?x3 ?x4 ?_; (case x1 => exact HO.out.up U8.out); (case x2 => exact R8.out); (case x3 => (have := HL.out; simp only [List.length_singleton]; omega)); (case x4 => exact Nat.le_trans HSB.out U8.out.size); intro p9 m9 c9 W10 o9 b9 g9; have O9 := Lib.hid o9; (have V9 : Hid (Up w W10) := Below.trans (Up.trans HU.out U8.out) (b9.mono (Nat.le_of_eq HBS.out))); clear o9 b9 g9))
      exact ⟨⟨i + 1, by omega, by go_num, by (show OwnR _ _ _ _ _ _ _; rw [HST.out]; exact O9.out), V9⟩, by simp [intOf]; omega⟩

theorem eltOpen : EltT Tryd.prog 35 44 7 88 := ⟨rfl, _, _, rfl, rfl, by kernel_rfl, by kernel_rfl, by kernel_rfl⟩
theorem RevR.rest {w w' : World} {sls : List SlA} {xs : List OpA} {N : List Int} {n k : Nat} {p q : Option Addr} {c d : Nat} {A : List OfA} {x : OpA} (h : RevR w w' (revO sls xs) N n k p q c d A) : (A.filter fun a => a.o.no != x.a.o.no).map OfA.o = (revO sls xs).filter fun o => o.no != x.a.o.no := by
  rw [← h.eq, List.filter_map]; rfl

set_option maxHeartbeats 32000000 in
theorem lawFur_calls (p q : Option Addr) (n c m d : Nat) (sls : List SlA) (xs : List OpA) (x : OpA) (w : World) (hn : n = sls.length) (hm : m = xs.length) (hc : n ≤ c) (hcm : c ≤ maxLen) (hd : m ≤ d) (hdm : d ≤ maxLen)
    (hr : RowAt w p 2 slCells sls) (hsl : ∀ s ∈ sls, SlAt w s) (hx : RowAt w q 7 opCells xs) (hxa : ∀ x ∈ xs, OpAt w x) (hxx : OpAt w x) (t0 : Tab0 w) (t1 : Tab w) :
    Calls Tryd.prog 9 #[.slice p n c, .slice q m d, .agg (opCells x).toArray] w fun e w' => e = .returned (.bool true) ∧ Up w w' := by
  have HT : Hid (Tabs w) := ⟨t0, t1⟩
  have SN := Lib.hid fun W (hu : Up w W) => sane44_calls W (HT.out.up hu)
  have FW := Lib.hid fun W (hu : Up w W) => rfew_calls p q n c m d sls xs W hn hm hc hcm hd hdm (hr.kept2 hu) (hx.kept2 hu)
  have SX := Lib.hid fun W => rsmall_calls x.a x.sp x.salt.length x.sc W
  have RP := Lib.hid fun W (hu : Up w W) => reveal_calls p q n c m d sls xs W hn hm hc hcm hd hdm (hr.kept2 hu) (fun s hs => (hsl s hs).up hu) (hx.kept2 hu) (fun x hx => (hxa x hx).up hu) (HT.out.up hu)
  have RQ : Hid (∀ W (hu : Up w W) (q' : Option Addr) (d' : Nat), m + 1 ≤ d' → d' ≤ maxLen → RowAt W q' 7 opCells (xs ++ [x]) → Calls Tryd.prog 19 #[.slice p n c, .slice q' (m + 1) d'] W (RetR W (revO sls (xs ++ [x])) (revS sls (xs ++ [x])) (revE sls (xs ++ [x])))) := fun W hu q' d' h1 h2 h3 => reveal_calls p q' n c (m + 1) d' sls (xs ++ [x]) W hn (by rw [hm]; simp) hc hcm h1 h2 (hr.kept2 hu) (fun s hs => (hsl s hs).up hu) h3 (fun y hy => by
    rcases List.mem_append.1 hy with hy | hy
    · exact (hxa y hy).up hu
    · rw [List.mem_singleton.1 hy]; exact hxx.up hu) (HT.out.up hu)
  have FL : Hid (fewB sls xs = true → n ≤ 100) := fun h => by have := (few_len h).1; omega
  have HXQ := Lib.hid hx
  have PF : Hid (m ≤ 20 → revE sls (xs ++ [x]) = revE sls xs ∧ (revO sls xs).filter (fun o => o.no != x.a.o.no) = (revO sls (xs ++ [x])).filter (fun o => o.no != x.a.o.no) ∧ (revS sls (xs ++ [x])).length ≤ (revS sls xs).length ∧ (revS sls xs).length ≤ (revS sls (xs ++ [x])).length + 1) := fun h => ⟨fur_e sls xs x (by omega), fur_rest sls xs x (by omega), fur_sil sls xs x (by omega)⟩
  have LN := Lib.hid (And.intro (revO_len sls xs) (And.intro (revO_len sls (xs ++ [x])) (And.intro (revS_len sls xs) (revS_len sls (xs ++ [x])))))
  rw [← hn] at LN
  have OX := Lib.hid fun (W : World) (b : Nat) (h : W.heap[b]? = some (.cells (opCells x).toArray 44 (0, 0))) => (⟨h⟩ : OpB W b x)
  have AXs : Hid ((ofCells x.a).toArray.size = 6) := rfl
  have VXs : Hid ((opCells x).toArray.size = 7) := rfl
  obtain ⟨AX, hAX⟩ : ∃ A, A = (ofCells x.a).toArray := ⟨_, rfl⟩
  obtain ⟨VX, hVX⟩ : ∃ A, A = (opCells x).toArray := ⟨_, rfl⟩
  obtain ⟨nx, hnx⟩ : ∃ n, n = x.salt.length := ⟨_, rfl⟩
  have BX : Hid (∀ W b, OpB W b x → W.rangeAt b 0 AX.toList ∧ W.cell? ⟨b, 6, none⟩ = some (.slice x.sp nx x.sc) ∧ W.rangeAt b 0 VX.toList) := fun W b h => ⟨by rw [hAX]; exact h.off, by rw [hnx]; exact h.salt, by rw [hVX]; exact h.whole⟩
  rw [← hAX, ← hnx] at SX
  rw [← hAX] at AXs
  rw [← hVX] at OX VXs ⊢
  have HVX := Lib.hid hVX
  obtain ⟨sx, hsx⟩ : ∃ b, b = smallB x.a.o nx := ⟨_, rfl⟩
  rw [← hsx] at SX
  obtain ⟨fw, hfw⟩ : ∃ fw, fw = fewB sls xs := ⟨_, rfl⟩
  rw [← hfw] at FW FL
  obtain ⟨nl, hnl⟩ : ∃ nl, nl = (revO sls xs).length := ⟨_, rfl⟩
  obtain ⟨ns, hns⟩ : ∃ ns, ns = (revS sls xs).length := ⟨_, rfl⟩
  obtain ⟨nl2, hnl2⟩ : ∃ nl, nl = (revO sls (xs ++ [x])).length := ⟨_, rfl⟩
  obtain ⟨ns2, hns2⟩ : ∃ ns, ns = (revS sls (xs ++ [x])).length := ⟨_, rfl⟩
  obtain ⟨ee, hee⟩ : ∃ ee, ee = revE sls xs := ⟨_, rfl⟩
  rw [← hnl, ← hnl2, ← hns, ← hns2] at LN
  rw [← hns, ← hns2, ← hee] at PF
  rw [← hee] at RP
  have HNL := Lib.hid hnl
  have HNS := Lib.hid hns
  have HNL2 := Lib.hid hnl2
  have HNS2 := Lib.hid hns2
  have HM := Lib.hid hm
  clear hAX hVX hnx hsx hfw hnl hns hnl2 hns2 hee hn hm hr hsl hx hxa hxx t0 t1 HT hc hcm
  go_enter Tryd.func9, Tryd.ntmps9
  obtain ⟨b5, hb5⟩ : ∃ b, b = w.heap.size := ⟨_, rfl⟩
  go_wp2_with fail
  refine calls_named0 ?_
  intro W1 hW1
  have u1 : Up w W1 := by rw [hW1]; exact (Up.refl w).alloc _
  have ox1 := OX.out W1 b5 (by rw [hW1]; exact heap_new hb5)
  rw [← hb5]
  have U1 := Lib.hid u1
  have OX_1 := Lib.hid ox1
  clear hW1 u1 ox1 hb5 OX
  refine (SN.out W1 U1.out).mono ?_
  rintro e W2 ⟨rfl, u2⟩
  have U2 : Hid (Up w W2) := Up.trans U1.out u2
  have OX_2 := Lib.hid (OX_1.out.up u2)
  clear u2 SN OX_1 U1
  go_wp2_with fail
  refine (FW.out W2 U2.out).mono ?_
  rintro e W3 ⟨rfl, u3⟩
  have U3 : Hid (Up w W3) := Up.trans U2.out u3
  have OX_3 := Lib.hid (OX_2.out.up u3)
  have s3 := (BX.out _ _ OX_3.out).2.1
  clear u3 FW OX_2 U2
  cases fw
  case false =>
    go_wp2_with fail
    go_ret
    exact ⟨rfl, U3.out⟩
  have hn1 : n ≤ 100 := FL.out (by first | rfl | trivial)
  clear FL
  by_cases hm20 : m ≤ 20
  case neg =>
    have d1 : decide ((20 : Int) < (m : Int)) = true := by simp; omega
    clear hm20
    go_wp2_with fail
    go_ret
    exact ⟨rfl, U3.out⟩
  have d1 : decide ((20 : Int) < (m : Int)) = false := by simp; omega
  obtain ⟨z1, z2, z3, z4⟩ := PF.out hm20
  have Z2 := Lib.hid z2
  rw [z1] at RQ
  clear PF z1 z2
  go_wp2_with (first | ((with_reducible show wpList _ _ _ (Oper.mk _ (Op.load _ (Operand.tmp 26)) _ _ _ _ :: _) _ _); refine wpList_load_arrG (by rfl) 26 (.tmp 26) rfl b5 0 rfl AX _ (BX.out _ _ OX_3.out).1 rfl rfl (by rw [AXs.out]; rfl) ?_))
  refine (SX.out W3).mono ?_
  rintro e W4 ⟨rfl, u4⟩
  have U4 : Hid (Up w W4) := Up.trans U3.out u4
  have OX_4 := Lib.hid (OX_3.out.up u4)
  clear u4 SX OX_3 U3 s3
  cases sx
  case false =>
    go_wp2_with fail
    go_ret
    exact ⟨rfl, U4.out⟩
  go_wp2_with fail
  refine (RP.out W4 U4.out).mono ?_
  intro e W5 hR
  obtain ⟨p1, k1, q1, j1, A1, he, r1⟩ := hR.lit HNL.out.symm HNS.out.symm
  subst he
  have U5 : Hid (Up w W5) := Up.trans U4.out r1.up
  have OX_5 := Lib.hid (OX_4.out.up r1.up)
  have R1 := Lib.hid r1
  clear hR r1 RP U4 OX_4
  go_wp2_with fail
  refine wp_region_scr_at (.still 0 (.still 2 (.still 4 (.two 1 (.two 3 (.one 5 (.one 6 (.one 7 (.still 8 (.still 9 (.still 10 (.still 11 (.still 12 (.still 13 (.still 14 .nil)))))))))) 5 (.one 3 (.one 6 (.one 7 (.still 8 (.still 9 (.still 10 (.still 11 (.still 12 (.still 13 (.still 14 .nil))))))))))) 5 (.one 1 (.one 3 (.one 6 (.one 7 (.still 8 (.still 9 (.still 10 (.still 11 (.still 12 (.still 13 (.still 14 .nil))))))))))))))) (by kernel_rfl) (by kernel_rfl) (fun _ _ d _ _ h => by cases d <;> exact h) ?_
  intro W6 u6 hW6
  have U6 : Hid (Up w W6) := Up.trans U5.out u6
  have OX_6 := Lib.hid (OX_5.out.up u6)
  have R16 := Lib.hid (R1.out.kept u6)
  obtain ⟨bz, hbz⟩ : ∃ b, b = W6.heap.size := ⟨_, rfl⟩
  have HBZ : Hid (W6.heap.size = bz) := hbz.symm
  have HXR : Hid (RowAt W6 q 7 opCells xs) := HXQ.out.kept2 U6.out
  have HB5 : Hid (b5 < bz) := by show _ < _; rw [hbz]; exact lt_of_block OX_6.out.blk
  clear u6 hW6 hbz R1 U5 OX_5 HXQ
  refine ⟨fun W' => Below bz W6 W', Below.refl _ _, ?_⟩
  haveI : Nonempty (InC (fun W' => Below bz W6 W')) := ⟨⟨W6, Below.refl _ _⟩⟩
  refine wpScr_still rfl (fun K hK => ?_); go_simp; refine hK _ ?_; clear hK K
  refine wpScr_still rfl (fun K hK => ?_); go_simp; refine hK _ ?_; clear hK K
  refine wpScr_still_arr rfl (by rfl) 44 (.tmp 5) rfl b5 0 rfl VX _ (fun w' hw' => by
    obtain ⟨z, rfl⟩ := hw'
    have h := (z.h.block _ HB5.out).trans OX_6.out.blk
    rw [HVX.out]; exact rangeAt_row h) rfl rfl (by rw [VXs.out]; rfl) ?_
  obtain ⟨ii, zz, hii, hzz, hi1, hi2, hi3⟩ := eltOpen.info
  have HII := Lib.hid hii
  have HZZ := Lib.hid hzz
  have HI1 := Lib.hid hi1
  clear hii hzz hi1 hi2 hi3
  refine ⟨stepScr_go rfl (fun K hK => ?_), ?_⟩
  · go_simp
    obtain ⟨be, hbe⟩ : ∃ b, b = W6.heap.size := ⟨_, rfl⟩
    obtain ⟨Wa, hV⟩ : ∃ V, V = W6.alloc (.cells #[] 44 (0, 0)) := ⟨_, rfl⟩
    rw [← hbe, ← hV]
    have oe : OwnR Wa bz 44 7 opCells (.slice (some ⟨be, 0, none⟩) 0 0) [] := by rw [hV, hbe]; exact (OwnR.empty W6).less (by rw [← HBZ.out]; exact (Below.refl bz W6).size)
    have a1 : Up W6 Wa := by rw [hV]; exact (Up.refl _).alloc _
    have b1 : Below bz W6 Wa := (Below.refl bz W6).trans (Up.below2 a1 (by rw [← HBZ.out]; exact (Below.refl bz W6).size))
    have xb1 : be < Wa.heap.size := by rw [hV, hbe]; simp
    refine hK _ _ (inC b1) ?_
    clear hK K hV
    refine ⟨?_, ?_⟩
    · refine stepScr_want rfl rfl (fun K hK => ?_)
      refine wp_appR (.tmp 43) (.tmp 44) eltOpen (by omega) rfl rfl bz _ [] q m d xs rfl rfl HM.out (fun x _ => opCells_len x) (fun x _ => opCells_one x) ?x1 ?x2 ?x3 ?x4 ?_
      case x1 => exact oe
      case x2 =>
        intro hne
        obtain ⟨b, of, e, hi⟩ := HXR.out hne
        refine ⟨b, of, e, fun i h => rangeAt_kept' (hi i h) ?_⟩
        have hlt := rangeAt_lt (hi i h) (by rw [opCells_len]; omega)
        exact b1.block b (by rw [← HBZ.out]; exact hlt)
      case x3 => (rw [← HM.out]; simp; omega)
      case x4 => (rw [← HBZ.out]; exact b1.size)
      intro p' m' d' Wb o3 bb3 g3
      rw [List.nil_append] at o3
      have b2 : Below bz W6 Wb := b1.trans bb3
      refine hK _ _ (inC b2) ?_
      clear hK K
      refine stepScr_want rfl rfl (fun K hK => ?_)
      refine wp_buildSlice 35 44 1 #[(0, .tmp 46)] rfl VX ii zz rfl HII.out HZZ.out (by rw [HI1.out]; decide) (by rw [HI1.out]; decide) (by (simp only [List.map_toArray, List.map_cons, List.map_nil]; exact fill_row (zz := zz) HI1.out (by omega) VX VXs.out)) ?_
      obtain ⟨bo, hbo⟩ : ∃ b, b = Wb.heap.size := ⟨_, rfl⟩
      obtain ⟨Wc, hV⟩ : ∃ V, V = Wb.alloc (.cells VX 44 (0, 0)) := ⟨_, rfl⟩
      rw [← hbo, ← hV]
      have hxo : Wc.heap[bo]? = some (.cells VX 44 (0, 0)) := by rw [hV]; exact heap_new hbo
      have a3 : Up Wb Wc := by rw [hV]; exact (Up.refl _).alloc _
      have b3 : Below bz W6 Wc := b2.trans (Up.below2 a3 (by rw [← HBZ.out]; exact b2.size))
      refine hK _ _ (inC b3) ?_
      clear hK K hV
      have O3 := Lib.hid (o3.up a3)
      have RX : Hid (RowAt Wc (some ⟨bo, 0, none⟩) 7 opCells [x]) := rowAt_block (D := VX) (fun _ _ => rfl) (by rw [HVX.out]; simp [fl]) hxo
      have BL := Lib.hid b3
      clear o3 a3 b3 b2 b1 hxo oe a1 xb1 bb3 g3 hbo hbe
      refine stepScr_want rfl rfl (fun K hK => ?_)
      refine wp_appR (.tmp 45) (.tmp 47) eltOpen (by omega) rfl rfl bz _ xs (some ⟨bo, 0, none⟩) 1 1 [x] rfl rfl rfl (fun x _ => opCells_len x) (fun x _ => opCells_one x) ?x1 ?x2 ?x3 ?x4 ?_
      case x1 => exact O3.out
      case x2 => exact RX.out
      case x3 => (rw [← HM.out]; simp; omega)
      case x4 => (rw [← HBZ.out]; exact BL.out.size)
      intro p9 m9 d9 Wd o9 bb9 g9
      obtain ⟨p8, c8, e8, h81, h82, h83, -⟩ := o9.form (fun x _ => opCells_len x)
      injection e8 with e1 e2 e3
      subst e1 e3
      rw [List.length_append, ← HM.out, List.length_singleton] at e2 h81
      subst e2
      have BD : Hid (Below bz W6 Wd) := BL.out.trans bb9
      have U9 : Hid (Up w Wd) := Below.trans U6.out (BD.out.mono (by rw [← HBZ.out]; exact U6.out.size))
      have H83 := Lib.hid h83
      have H81 := Lib.hid h81
      have H82 := Lib.hid h82
      have XB9 : Hid (OpB Wd b5 x) := ⟨(BD.out.block _ HB5.out).trans OX_6.out.blk⟩
      have R19 : Hid (RevR W4 Wd (revO sls xs) (revS sls xs) nl ns p1 q1 k1 j1 A1) := R16.out.kept (by show Below _ _ _; rw [HBZ.out]; exact BD.out)
      refine hK _ _ (inC BD.out) ?_
      clear hK K o9 bb9 g9 O3 RX BL h83 h81 h82
      refine stepScr_go rfl (fun K hK => ?_)
      go_simp
      refine (RQ.out Wd U9.out p9 d9 H81.out H82.out H83.out).mono ?_
      intro e We hR
      obtain ⟨p2, k2, q2, j2, A2, he, r2⟩ := hR.lit HNL2.out.symm HNS2.out.symm
      subst he
      have UE : Hid (Up w We) := Up.trans U9.out r2.up
      have R1E := Lib.hid (R19.out.kept r2.up)
      have R2E := Lib.hid r2
      have XBE := Lib.hid (XB9.out.up r2.up)
      have BE : Hid (Below bz W6 We) := BD.out.trans (Up.below2 r2.up (by rw [← HBZ.out]; exact BD.out.size))
      refine hK _ _ (inC BE.out) ?_
      clear hK K hR r2 U9 R19 XB9 BD RQ H81 H82 H83
      repeat (refine wpScr_still rfl (fun K hK => ?_); go_simp; refine hK _ ?_; clear hK K)
      refine wpScr_nil ?_
      have e1 : (ee == ee) = true := by simp
      clear BE U6 OX_6 R16 HXR
      go_wp2_with fail
      refine (rest_calls A1 x b5 p1 nl k1 We R1E.out.len.symm (by have := LN.out.1; omega) R1E.out.c1 R1E.out.c2 R1E.out.row XBE.out).mono ?_
      rintro e Wf ⟨v1, rfl, o1, u1⟩
      obtain ⟨p3, c3, e3, h31, h32, h33, -⟩ := o1.form (fun x _ => ofCells_len x)
      subst e3
      have UF : Hid (Up w Wf) := Up.trans UE.out u1
      have R2F := Lib.hid (R2E.out.kept u1)
      have R1F := Lib.hid (R1E.out.kept u1)
      have XBF := Lib.hid (XBE.out.up u1)
      have H33 := Lib.hid h33
      have H31 := Lib.hid (And.intro h31 h32)
      obtain ⟨f1, hf1⟩ : ∃ f, f = (A1.filter fun a => a.o.no != x.a.o.no).length := ⟨_, rfl⟩
      rw [← hf1] at H31 ⊢
      have HF1 := Lib.hid hf1
      clear u1 o1 h31 h32 h33 R2E R1E XBE UE hf1
      go_wp2_with fail
      refine (rest_calls A2 x b5 p2 nl2 k2 Wf R2F.out.len.symm (by have := LN.out.2.1; omega) R2F.out.c1 R2F.out.c2 R2F.out.row XBF.out).mono ?_
      rintro e Wg ⟨v2, rfl, o2, u2⟩
      obtain ⟨p4, c4, e4, h41, h42, h43, -⟩ := o2.form (fun x _ => ofCells_len x)
      subst e4
      have UG : Hid (Up w Wg) := Up.trans UF.out u2
      have R2G := Lib.hid (R2F.out.kept u2)
      have R1G := Lib.hid (R1F.out.kept u2)
      have H33G := Lib.hid (H33.out.kept2 u2)
      have H43 := Lib.hid h43
      have H41 := Lib.hid (And.intro h41 h42)
      obtain ⟨f2, hf2⟩ : ∃ f, f = (A2.filter fun a => a.o.no != x.a.o.no).length := ⟨_, rfl⟩
      rw [← hf2] at H41 ⊢
      have HF2 := Lib.hid hf2
      clear u2 o2 h41 h42 h43 R2F R1F XBF UF hf2 H33
      go_wp2_with fail
      refine (rsameAll_calls p3 p4 f1 f2 c3 c4 (A1.filter fun a => a.o.no != x.a.o.no) (A2.filter fun a => a.o.no != x.a.o.no) Wg HF1.out HF2.out (by rw [HF1.out]; exact Nat.le_trans (List.length_filter_le _ _) (by rw [R1G.out.len]; have := LN.out.1; omega)) H31.out.1 H31.out.2 H41.out.1 H41.out.2 H33G.out H43.out (fun a ha => ⟨R1G.out.lts a (List.mem_filter.1 ha).1, R1G.out.lots a (List.mem_filter.1 ha).1⟩) (fun b hb => R2G.out.lts b (List.mem_filter.1 hb).1)).mono ?_
      rintro e Wh ⟨he, u3⟩
      rw [decide_eq_true ((R1G.out.rest).trans (Z2.out.trans (R2G.out.rest).symm))] at he
      subst he
      have UH : Hid (Up w Wh) := Up.trans UG.out u3
      obtain ⟨df, hdf⟩ : ∃ df : Int, df = (ns : Int) - 1 := ⟨_, rfl⟩
      have e2 : IntKind.i64.wrap ((ns : Int) - 1) = df := by rw [hdf]; exact IntWalk.i64_in _ (by have := LN.out.2.2.1; omega)
      have e3 : decide (df ≤ (ns2 : Int)) = true := by simp; omega
      have e4 : decide ((ns2 : Int) ≤ (ns : Int)) = true := by simp; omega
      have e5 : decide (ns2 ≤ ns) = true := by simp; omega
      clear u3 R1G R2G hdf Z2 z3 z4
      go_wp2_with fail
      go_ret
      exact ⟨rfl, UH.out⟩
    · refine stepScr_want rfl rfl (fun K hK => ?_)
      refine wp_buildSlice 35 44 1 #[(0, .tmp 46)] rfl VX ii zz rfl HII.out HZZ.out (by rw [HI1.out]; decide) (by rw [HI1.out]; decide) (by (simp only [List.map_toArray, List.map_cons, List.map_nil]; exact fill_row (zz := zz) HI1.out (by omega) VX VXs.out)) ?_
      obtain ⟨bo, hbo⟩ : ∃ b, b = Wa.heap.size := ⟨_, rfl⟩
      obtain ⟨Wb, hV⟩ : ∃ V, V = Wa.alloc (.cells VX 44 (0, 0)) := ⟨_, rfl⟩
      rw [← hbo, ← hV]
      have hxo : Wb.heap[bo]? = some (.cells VX 44 (0, 0)) := by rw [hV]; exact heap_new hbo
      have a2 : Up Wa Wb := by rw [hV]; exact (Up.refl _).alloc _
      have b2 : Below bz W6 Wb := b1.trans (Up.below2 a2 (by rw [← HBZ.out]; exact b1.size))
      refine hK _ _ (inC b2) ?_
      clear hK K hV
      have oe2 := oe.up a2
      refine stepScr_want rfl rfl (fun K hK => ?_)
      refine wp_appR (.tmp 43) (.tmp 44) eltOpen (by omega) rfl rfl bz _ [] q m d xs rfl rfl HM.out (fun x _ => opCells_len x) (fun x _ => opCells_one x) ?x1 ?x2 ?x3 ?x4 ?_
      case x1 => exact oe2
      case x2 =>
        intro hne
        obtain ⟨b, of, e, hi⟩ := HXR.out hne
        refine ⟨b, of, e, fun i h => rangeAt_kept' (hi i h) ?_⟩
        have hlt := rangeAt_lt (hi i h) (by rw [opCells_len]; omega)
        exact b2.block b (by rw [← HBZ.out]; exact hlt)
      case x3 => (rw [← HM.out]; simp; omega)
      case x4 => (rw [← HBZ.out]; exact b2.size)
      intro p' m' d' Wc o3 bb3 g3
      rw [List.nil_append] at o3
      have b3 : Below bz W6 Wc := b2.trans bb3
      refine hK _ _ (inC b3) ?_
      clear hK K
      have hxo2 : Wc.heap[bo]? = some (.cells VX 44 (0, 0)) := (g3.grown.block bo (lt_of_block hxo) (by intro e; injection e with e; rw [hbo] at e; exact absurd e (by show ¬ _ = be; omega))).trans hxo
      have O3 := Lib.hid o3
      have RX : Hid (RowAt Wc (some ⟨bo, 0, none⟩) 7 opCells [x]) := rowAt_block (D := VX) (fun _ _ => rfl) (by rw [HVX.out]; simp [fl]) hxo2
      have BL := Lib.hid b3
      clear o3 a2 b3 b2 b1 hxo oe a1 xb1 bb3 g3 hbo hbe oe2 hxo2
      refine stepScr_want rfl rfl (fun K hK => ?_)
      refine wp_appR (.tmp 45) (.tmp 47) eltOpen (by omega) rfl rfl bz _ xs (some ⟨bo, 0, none⟩) 1 1 [x] rfl rfl rfl (fun x _ => opCells_len x) (fun x _ => opCells_one x) ?x1 ?x2 ?x3 ?x4 ?_
      case x1 => exact O3.out
      case x2 => exact RX.out
      case x3 => (rw [← HM.out]; simp; omega)
      case x4 => (rw [← HBZ.out]; exact BL.out.size)
      intro p9 m9 d9 Wd o9 bb9 g9
      obtain ⟨p8, c8, e8, h81, h82, h83, -⟩ := o9.form (fun x _ => opCells_len x)
      injection e8 with e1 e2 e3
      subst e1 e3
      rw [List.length_append, ← HM.out, List.length_singleton] at e2 h81
      subst e2
      have BD : Hid (Below bz W6 Wd) := BL.out.trans bb9
      have U9 : Hid (Up w Wd) := Below.trans U6.out (BD.out.mono (by rw [← HBZ.out]; exact U6.out.size))
      have H83 := Lib.hid h83
      have H81 := Lib.hid h81
      have H82 := Lib.hid h82
      have XB9 : Hid (OpB Wd b5 x) := ⟨(BD.out.block _ HB5.out).trans OX_6.out.blk⟩
      have R19 : Hid (RevR W4 Wd (revO sls xs) (revS sls xs) nl ns p1 q1 k1 j1 A1) := R16.out.kept (by show Below _ _ _; rw [HBZ.out]; exact BD.out)
      refine hK _ _ (inC BD.out) ?_
      clear hK K o9 bb9 g9 O3 RX BL h83 h81 h82
      refine stepScr_go rfl (fun K hK => ?_)
      go_simp
      refine (RQ.out Wd U9.out p9 d9 H81.out H82.out H83.out).mono ?_
      intro e We hR
      obtain ⟨p2, k2, q2, j2, A2, he, r2⟩ := hR.lit HNL2.out.symm HNS2.out.symm
      subst he
      have UE : Hid (Up w We) := Up.trans U9.out r2.up
      have R1E := Lib.hid (R19.out.kept r2.up)
      have R2E := Lib.hid r2
      have XBE := Lib.hid (XB9.out.up r2.up)
      have BE : Hid (Below bz W6 We) := BD.out.trans (Up.below2 r2.up (by rw [← HBZ.out]; exact BD.out.size))
      refine hK _ _ (inC BE.out) ?_
      clear hK K hR r2 U9 R19 XB9 BD RQ H81 H82 H83
      repeat (refine wpScr_still rfl (fun K hK => ?_); go_simp; refine hK _ ?_; clear hK K)
      refine wpScr_nil ?_
      have e1 : (ee == ee) = true := by simp
      clear BE U6 OX_6 R16 HXR
      go_wp2_with fail
      refine (rest_calls A1 x b5 p1 nl k1 We R1E.out.len.symm (by have := LN.out.1; omega) R1E.out.c1 R1E.out.c2 R1E.out.row XBE.out).mono ?_
      rintro e Wf ⟨v1, rfl, o1, u1⟩
      obtain ⟨p3, c3, e3, h31, h32, h33, -⟩ := o1.form (fun x _ => ofCells_len x)
      subst e3
      have UF : Hid (Up w Wf) := Up.trans UE.out u1
      have R2F := Lib.hid (R2E.out.kept u1)
      have R1F := Lib.hid (R1E.out.kept u1)
      have XBF := Lib.hid (XBE.out.up u1)
      have H33 := Lib.hid h33
      have H31 := Lib.hid (And.intro h31 h32)
      obtain ⟨f1, hf1⟩ : ∃ f, f = (A1.filter fun a => a.o.no != x.a.o.no).length := ⟨_, rfl⟩
      rw [← hf1] at H31 ⊢
      have HF1 := Lib.hid hf1
      clear u1 o1 h31 h32 h33 R2E R1E XBE UE hf1
      go_wp2_with fail
      refine (rest_calls A2 x b5 p2 nl2 k2 Wf R2F.out.len.symm (by have := LN.out.2.1; omega) R2F.out.c1 R2F.out.c2 R2F.out.row XBF.out).mono ?_
      rintro e Wg ⟨v2, rfl, o2, u2⟩
      obtain ⟨p4, c4, e4, h41, h42, h43, -⟩ := o2.form (fun x _ => ofCells_len x)
      subst e4
      have UG : Hid (Up w Wg) := Up.trans UF.out u2
      have R2G := Lib.hid (R2F.out.kept u2)
      have R1G := Lib.hid (R1F.out.kept u2)
      have H33G := Lib.hid (H33.out.kept2 u2)
      have H43 := Lib.hid h43
      have H41 := Lib.hid (And.intro h41 h42)
      obtain ⟨f2, hf2⟩ : ∃ f, f = (A2.filter fun a => a.o.no != x.a.o.no).length := ⟨_, rfl⟩
      rw [← hf2] at H41 ⊢
      have HF2 := Lib.hid hf2
      clear u2 o2 h41 h42 h43 R2F R1F XBF UF hf2 H33
      go_wp2_with fail
      refine (rsameAll_calls p3 p4 f1 f2 c3 c4 (A1.filter fun a => a.o.no != x.a.o.no) (A2.filter fun a => a.o.no != x.a.o.no) Wg HF1.out HF2.out (by rw [HF1.out]; exact Nat.le_trans (List.length_filter_le _ _) (by rw [R1G.out.len]; have := LN.out.1; omega)) H31.out.1 H31.out.2 H41.out.1 H41.out.2 H33G.out H43.out (fun a ha => ⟨R1G.out.lts a (List.mem_filter.1 ha).1, R1G.out.lots a (List.mem_filter.1 ha).1⟩) (fun b hb => R2G.out.lts b (List.mem_filter.1 hb).1)).mono ?_
      rintro e Wh ⟨he, u3⟩
      rw [decide_eq_true ((R1G.out.rest).trans (Z2.out.trans (R2G.out.rest).symm))] at he
      subst he
      have UH : Hid (Up w Wh) := Up.trans UG.out u3
      obtain ⟨df, hdf⟩ : ∃ df : Int, df = (ns : Int) - 1 := ⟨_, rfl⟩
      have e2 : IntKind.i64.wrap ((ns : Int) - 1) = df := by rw [hdf]; exact IntWalk.i64_in _ (by have := LN.out.2.2.1; omega)
      have e3 : decide (df ≤ (ns2 : Int)) = true := by simp; omega
      have e4 : decide ((ns2 : Int) ≤ (ns : Int)) = true := by simp; omega
      have e5 : decide (ns2 ≤ ns) = true := by simp; omega
      clear u3 R1G R2G hdf Z2 z3 z4
      go_wp2_with fail
      go_ret
      exact ⟨rfl, UH.out⟩
  · refine stepScr_want rfl rfl (fun K hK => ?_)
    refine wp_buildSlice 35 44 1 #[(0, .tmp 46)] rfl VX ii zz rfl HII.out HZZ.out (by rw [HI1.out]; decide) (by rw [HI1.out]; decide) (by (simp only [List.map_toArray, List.map_cons, List.map_nil]; exact fill_row (zz := zz) HI1.out (by omega) VX VXs.out)) ?_
    obtain ⟨bo, hbo⟩ : ∃ b, b = W6.heap.size := ⟨_, rfl⟩
    obtain ⟨Wa, hV⟩ : ∃ V, V = W6.alloc (.cells VX 44 (0, 0)) := ⟨_, rfl⟩
    rw [← hbo, ← hV]
    have hxo : Wa.heap[bo]? = some (.cells VX 44 (0, 0)) := by rw [hV]; exact heap_new hbo
    have a1 : Up W6 Wa := by rw [hV]; exact (Up.refl _).alloc _
    have b1 : Below bz W6 Wa := (Below.refl bz W6).trans (Up.below2 a1 (by rw [← HBZ.out]; exact (Below.refl bz W6).size))
    refine hK _ _ (inC b1) ?_
    clear hK K hV
    refine stepScr_go rfl (fun K hK => ?_)
    go_simp
    obtain ⟨be, hbe⟩ : ∃ b, b = Wa.heap.size := ⟨_, rfl⟩
    obtain ⟨Wb, hV⟩ : ∃ V, V = Wa.alloc (.cells #[] 44 (0, 0)) := ⟨_, rfl⟩
    rw [← hbe, ← hV]
    have oe : OwnR Wb bz 44 7 opCells (.slice (some ⟨be, 0, none⟩) 0 0) [] := by rw [hV, hbe]; exact (OwnR.empty Wa).less (by rw [← HBZ.out]; exact b1.size)
    have a2 : Up Wa Wb := by rw [hV]; exact (Up.refl _).alloc _
    have b2 : Below bz W6 Wb := b1.trans (Up.below2 a2 (by rw [← HBZ.out]; exact b1.size))
    have xb1 : be < Wb.heap.size := by rw [hV, hbe]; simp
    refine hK _ _ (inC b2) ?_
    clear hK K hV
    have hxo1 := (a2.block _ (lt_of_block hxo)).trans hxo
    refine stepScr_want rfl rfl (fun K hK => ?_)
    refine wp_appR (.tmp 43) (.tmp 44) eltOpen (by omega) rfl rfl bz _ [] q m d xs rfl rfl HM.out (fun x _ => opCells_len x) (fun x _ => opCells_one x) ?x1 ?x2 ?x3 ?x4 ?_
    case x1 => exact oe
    case x2 =>
      intro hne
      obtain ⟨b, of, e, hi⟩ := HXR.out hne
      refine ⟨b, of, e, fun i h => rangeAt_kept' (hi i h) ?_⟩
      have hlt := rangeAt_lt (hi i h) (by rw [opCells_len]; omega)
      exact b2.block b (by rw [← HBZ.out]; exact hlt)
    case x3 => (rw [← HM.out]; simp; omega)
    case x4 => (rw [← HBZ.out]; exact b2.size)
    intro p' m' d' Wc o3 bb3 g3
    rw [List.nil_append] at o3
    have b3 : Below bz W6 Wc := b2.trans bb3
    refine hK _ _ (inC b3) ?_
    clear hK K
    have hxo2 : Wc.heap[bo]? = some (.cells VX 44 (0, 0)) := (g3.grown.block bo (lt_of_block hxo1) (by intro e; injection e with e; have e' : bo = be := e; have := lt_of_block hxo; omega)).trans hxo1
    have O3 := Lib.hid o3
    have RX : Hid (RowAt Wc (some ⟨W6.heap.size, 0, none⟩) 7 opCells [x]) := by rw [← hbo]; exact rowAt_block (D := VX) (fun _ _ => rfl) (by rw [HVX.out]; simp [fl]) hxo2
    have BL := Lib.hid b3
    clear o3 a2 b3 b2 b1 hxo oe a1 xb1 bb3 g3 hbo hbe hxo2 hxo1
    refine stepScr_want rfl rfl (fun K hK => ?_)
    refine wp_appR (.tmp 45) (.tmp 47) eltOpen (by omega) rfl rfl bz _ xs (some ⟨W6.heap.size, 0, none⟩) 1 1 [x] rfl rfl rfl (fun x _ => opCells_len x) (fun x _ => opCells_one x) ?x1 ?x2 ?x3 ?x4 ?_
    case x1 => exact O3.out
    case x2 => exact RX.out
    case x3 => (rw [← HM.out]; simp; omega)
    case x4 => (rw [← HBZ.out]; exact BL.out.size)
    intro p9 m9 d9 Wd o9 bb9 g9
    obtain ⟨p8, c8, e8, h81, h82, h83, -⟩ := o9.form (fun x _ => opCells_len x)
    injection e8 with e1 e2 e3
    subst e1 e3
    rw [List.length_append, ← HM.out, List.length_singleton] at e2 h81
    subst e2
    have BD : Hid (Below bz W6 Wd) := BL.out.trans bb9
    have U9 : Hid (Up w Wd) := Below.trans U6.out (BD.out.mono (by rw [← HBZ.out]; exact U6.out.size))
    have H83 := Lib.hid h83
    have H81 := Lib.hid h81
    have H82 := Lib.hid h82
    have XB9 : Hid (OpB Wd b5 x) := ⟨(BD.out.block _ HB5.out).trans OX_6.out.blk⟩
    have R19 : Hid (RevR W4 Wd (revO sls xs) (revS sls xs) nl ns p1 q1 k1 j1 A1) := R16.out.kept (by show Below _ _ _; rw [HBZ.out]; exact BD.out)
    refine hK _ _ (inC BD.out) ?_
    clear hK K o9 bb9 g9 O3 RX BL h83 h81 h82
    refine stepScr_go rfl (fun K hK => ?_)
    go_simp
    refine (RQ.out Wd U9.out p9 d9 H81.out H82.out H83.out).mono ?_
    intro e We hR
    obtain ⟨p2, k2, q2, j2, A2, he, r2⟩ := hR.lit HNL2.out.symm HNS2.out.symm
    subst he
    have UE : Hid (Up w We) := Up.trans U9.out r2.up
    have R1E := Lib.hid (R19.out.kept r2.up)
    have R2E := Lib.hid r2
    have XBE := Lib.hid (XB9.out.up r2.up)
    have BE : Hid (Below bz W6 We) := BD.out.trans (Up.below2 r2.up (by rw [← HBZ.out]; exact BD.out.size))
    refine hK _ _ (inC BE.out) ?_
    clear hK K hR r2 U9 R19 XB9 BD RQ H81 H82 H83
    repeat (refine wpScr_still rfl (fun K hK => ?_); go_simp; refine hK _ ?_; clear hK K)
    refine wpScr_nil ?_
    have e1 : (ee == ee) = true := by simp
    clear BE U6 OX_6 R16 HXR
    go_wp2_with fail
    refine (rest_calls A1 x b5 p1 nl k1 We R1E.out.len.symm (by have := LN.out.1; omega) R1E.out.c1 R1E.out.c2 R1E.out.row XBE.out).mono ?_
    rintro e Wf ⟨v1, rfl, o1, u1⟩
    obtain ⟨p3, c3, e3, h31, h32, h33, -⟩ := o1.form (fun x _ => ofCells_len x)
    subst e3
    have UF : Hid (Up w Wf) := Up.trans UE.out u1
    have R2F := Lib.hid (R2E.out.kept u1)
    have R1F := Lib.hid (R1E.out.kept u1)
    have XBF := Lib.hid (XBE.out.up u1)
    have H33 := Lib.hid h33
    have H31 := Lib.hid (And.intro h31 h32)
    obtain ⟨f1, hf1⟩ : ∃ f, f = (A1.filter fun a => a.o.no != x.a.o.no).length := ⟨_, rfl⟩
    rw [← hf1] at H31 ⊢
    have HF1 := Lib.hid hf1
    clear u1 o1 h31 h32 h33 R2E R1E XBE UE hf1
    go_wp2_with fail
    refine (rest_calls A2 x b5 p2 nl2 k2 Wf R2F.out.len.symm (by have := LN.out.2.1; omega) R2F.out.c1 R2F.out.c2 R2F.out.row XBF.out).mono ?_
    rintro e Wg ⟨v2, rfl, o2, u2⟩
    obtain ⟨p4, c4, e4, h41, h42, h43, -⟩ := o2.form (fun x _ => ofCells_len x)
    subst e4
    have UG : Hid (Up w Wg) := Up.trans UF.out u2
    have R2G := Lib.hid (R2F.out.kept u2)
    have R1G := Lib.hid (R1F.out.kept u2)
    have H33G := Lib.hid (H33.out.kept2 u2)
    have H43 := Lib.hid h43
    have H41 := Lib.hid (And.intro h41 h42)
    obtain ⟨f2, hf2⟩ : ∃ f, f = (A2.filter fun a => a.o.no != x.a.o.no).length := ⟨_, rfl⟩
    rw [← hf2] at H41 ⊢
    have HF2 := Lib.hid hf2
    clear u2 o2 h41 h42 h43 R2F R1F XBF UF hf2 H33
    go_wp2_with fail
    refine (rsameAll_calls p3 p4 f1 f2 c3 c4 (A1.filter fun a => a.o.no != x.a.o.no) (A2.filter fun a => a.o.no != x.a.o.no) Wg HF1.out HF2.out (by rw [HF1.out]; exact Nat.le_trans (List.length_filter_le _ _) (by rw [R1G.out.len]; have := LN.out.1; omega)) H31.out.1 H31.out.2 H41.out.1 H41.out.2 H33G.out H43.out (fun a ha => ⟨R1G.out.lts a (List.mem_filter.1 ha).1, R1G.out.lots a (List.mem_filter.1 ha).1⟩) (fun b hb => R2G.out.lts b (List.mem_filter.1 hb).1)).mono ?_
    rintro e Wh ⟨he, u3⟩
    rw [decide_eq_true ((R1G.out.rest).trans (Z2.out.trans (R2G.out.rest).symm))] at he
    subst he
    have UH : Hid (Up w Wh) := Up.trans UG.out u3
    obtain ⟨df, hdf⟩ : ∃ df : Int, df = (ns : Int) - 1 := ⟨_, rfl⟩
    have e2 : IntKind.i64.wrap ((ns : Int) - 1) = df := by rw [hdf]; exact IntWalk.i64_in _ (by have := LN.out.2.2.1; omega)
    have e3 : decide (df ≤ (ns2 : Int)) = true := by simp; omega
    have e4 : decide ((ns2 : Int) ≤ (ns : Int)) = true := by simp; omega
    have e5 : decide (ns2 ≤ ns) = true := by simp; omega
    clear u3 R1G R2G hdf Z2 z3 z4
    go_wp2_with fail
    go_ret
    exact ⟨rfl, UH.out⟩

end Go.Proofs.YtmifpokafaiebaaDoor
