/- the law OffersOwn. -/
import Derived.Test.YtmifpokafaiebaaDoorFwA
namespace Go.Proofs.YtmifpokafaiebaaDoor
open Go Go.RowKit
set_option linter.unusedVariables false
set_option maxRecDepth 100000

def sealIn (o : Of) (d : List UInt8) (sls : List SlA) : Bool := sls.any fun s => decide (s.farm = o.farm) && decide (s.dig = d)
def sealX (o : Of) (sls : List SlA) (x : OpA) : Bool := decide (msgE x.a.o x.salt = 0) && decide (x.a.o = o) && sealIn o (cmtL x.a.o x.salt) sls
def sealedB (o : Of) (sls : List SlA) (xs : List OpA) : Bool := xs.any (sealX o sls)
theorem any_drop {α : Type} (f : α → Bool) (l : List α) (i : Nat) (h : i < l.length) : (l.drop i).any f = (f l[i] || (l.drop (i + 1)).any f) := by
  rw [List.drop_eq_getElem_cons h, List.any_cons]

set_option maxHeartbeats 16000000 in
theorem sealed_calls (a : OfA) (p q : Option Addr) (n c m d : Nat) (sls : List SlA) (xs : List OpA) (w : World) (hn : n = sls.length) (hm : m = xs.length) (hc : n ≤ c) (hcm : c ≤ maxLen) (hd : m ≤ d) (hdm : d ≤ maxLen) (hn1 : n ≤ 100) (hm1 : m ≤ 100)
    (hr : RowAt w p 2 slCells sls) (hsl : ∀ s ∈ sls, SlAt w s) (hx : RowAt w q 7 opCells xs) (hxa : ∀ x ∈ xs, OpAt w x) (ht : Tabs w) (ha : LtsAt w a) (hl20 : ∀ x ∈ xs, x.a.o.lots.length ≤ 20) :
    Calls Tryd.prog 25 #[.agg (ofCells a).toArray, .slice p n c, .slice q m d] w fun e w' => e = .returned (.bool (sealedB a.o sls xs)) ∧ Up w w' := by
  obtain ⟨V, hV⟩ : ∃ V, V = sealedB a.o sls xs := ⟨_, rfl⟩
  rw [← hV]
  have HV := Lib.hid hV
  have HN := Lib.hid hn
  have HM := Lib.hid hm
  have HR := Lib.hid hr
  have HX := Lib.hid hx
  have HXA := Lib.hid hxa
  have HSL := Lib.hid hsl
  have HT := Lib.hid ht
  have HA := Lib.hid ha
  have HL20 := Lib.hid hl20
  obtain ⟨fo, hfo⟩ : ∃ fo, fo = a.o.farm := ⟨_, rfl⟩
  obtain ⟨Y, hY⟩ : ∃ Y, Y = (ofCells a).toArray := ⟨_, rfl⟩
  have hYs : Y.size = 6 := by rw [hY]; rfl
  have hY1 : Y[1]? = some (.int .i64 fo) := by rw [hY, hfo]; rfl
  rw [← hY]
  have HYs := Lib.hid hYs
  have HY1 := Lib.hid hY1
  have HYY := Lib.hid hY
  have HFO := Lib.hid hfo
  clear hV hn hm hr hx hxa hsl ht ha hl20 hYs hY1 hY hfo
  go_enter Tryd.func25, Tryd.ntmps25
  go_wp2_with fail
  refine wp_named ?_
  intro W1 hW1
  obtain ⟨b3, hb3⟩ : ∃ b, b = w.heap.size := ⟨_, rfl⟩
  rw [← hb3]
  have u1 : Up w W1 := by rw [hW1]; exact (Up.refl w).alloc _
  have x1 : W1.heap[b3]? = some (.cells Y 26 (0, 0)) := by rw [hW1]; exact heap_new hb3
  have U1 := Lib.hid u1
  have X1 := Lib.hid x1
  clear hW1 hb3 u1 x1
  go_loopw [15] (fun v15 wq => ∃ i : Nat, i ≤ m ∧ v15 = .int .i64 i ∧ Hid (sealedB a.o sls xs = (xs.drop i).any (sealX a.o sls)) ∧ Hid (Up W1 wq)) (fun v15 _ => m - (intOf v15).toNat)
  case atStart => exact ⟨0, by omega, rfl, rfl, Up.refl _⟩
  case round =>
    obtain ⟨i, hi, rfl, HB, HU⟩ := hrel
    by_cases hlt : i < m
    case neg =>
      have hv : V = false := by rw [HV.out, HB.out, List.drop_of_length_le (by rw [← HM.out]; omega)]; rfl
      subst hv
      clear HV HB
      go_wp2_with fail
      go_ret
      exact ⟨rfl, Up.trans U1.out HU.out⟩
    have hkx : i < xs.length := by rw [← HM.out]; exact hlt
    obtain ⟨b, of, rfl, hpr⟩ := HX.out (by rintro rfl; simp at hkx)
    have UK := Up.trans U1.out HU.out
    have g := rangeAt_up (hpr i hkx) UK
    have hxk := HXA.out _ (List.getElem_mem hkx)
    have h20 := HL20.out _ (List.getElem_mem hkx)
    have hst := any_drop (sealX a.o sls) xs i hkx
    obtain ⟨x, hxx⟩ : ∃ x, x = xs[i] := ⟨_, rfl⟩
    rw [← hxx] at g hxk hst h20
    have HS : Hid (V = (sealX a.o sls x || (xs.drop (i + 1)).any (sealX a.o sls))) := by show V = _; rw [HV.out, HB.out, hst]
    have HBN : Hid (sealX a.o sls x = false → sealedB a.o sls xs = (xs.drop (i + 1)).any (sealX a.o sls)) := fun h => by rw [HB.out, hst, h, Bool.false_or]
    have CM := Lib.hid fun W (hu : Up wr W) => ocommit_calls x.a x.salt x.sp x.sc W (hxk.lts.up (Up.trans UK hu)) (hxk.sb.up (Up.trans UK hu)) (HT.out.up (Up.trans UK hu))
    have SM := Lib.hid fun W (hu : Up wr W) => rsame_calls x.a a W (hxk.lts.up (Up.trans UK hu)) (HA.out.up (Up.trans UK hu)) (by omega)
    obtain ⟨ee, hee⟩ : ∃ ee, ee = msgE x.a.o x.salt := ⟨_, rfl⟩
    obtain ⟨bq, hbq⟩ : ∃ bq, bq = decide (x.a.o = a.o) := ⟨_, rfl⟩
    obtain ⟨D, hD⟩ : ∃ D, D = cmtL x.a.o x.salt := ⟨_, rfl⟩
    obtain ⟨sn, hsn⟩ : ∃ sn, sn = x.salt.length := ⟨_, rfl⟩
    have hsx : sealX a.o sls x = (decide (ee = 0) && bq && sealIn a.o D sls) := by unfold sealX; rw [hee, hbq, hD]
    obtain ⟨A, hA⟩ : ∃ A, A = (ofCells x.a).toArray := ⟨_, rfl⟩
    obtain ⟨B, hB⟩ : ∃ B, B = (opCells x).toArray := ⟨_, rfl⟩
    have hAs : A.size = 6 := by rw [hA]; rfl
    have hBs : B.size = 7 := by rw [hB]; rfl
    have hBc : B.all (·.oneCell') = true := by
      rw [hB, Array.all_eq_true_iff_forall_mem]
      intro v hv
      exact opCells_one _ v (by simpa using hv)
    have hBA : ∀ j, j < A.size → B[0 + j]? = A[j]? := fun j hj => by
      have hj6 : j < 6 := by rw [hAs] at hj; exact hj
      rw [Nat.zero_add, hB, hA]
      obtain rfl | rfl | rfl | rfl | rfl | rfl : j = 0 ∨ j = 1 ∨ j = 2 ∨ j = 3 ∨ j = 4 ∨ j = 5 := by omega
      all_goals rfl
    have hB6 : B[6]? = some (.slice x.sp sn x.sc) := by rw [hB, hsn]; rfl
    rw [← hA, ← hsn, ← hD, ← hee] at CM
    rw [← hA, ← HYY.out, ← hbq] at SM
    have G : Hid (wr.rangeAt b (of + i * 7) B.toList) := by show wr.rangeAt _ _ _; rw [hB]; exact g
    have HAs := Lib.hid hAs
    have HBs := Lib.hid hBs
    have HBc := Lib.hid hBc
    have HBA := Lib.hid hBA
    have HB6 := Lib.hid hB6
    have HSX := Lib.hid hsx
    have XY : Hid (wr.heap[b3]? = some (.cells Y 26 (0, 0))) := (HU.out.block _ (lt_of_block X1.out)).trans X1.out
    clear hA hB hAs hBs hBc hBA hB6 hsx hee hbq hD hsn g hxk h20 hst hpr hkx hxx UK HB
    go_wp2_with (first | ((with_reducible show wpList _ _ _ (Oper.mk _ (Op.load _ (Operand.tmp 17)) _ _ _ _ :: _) _ _); refine wpList_load_arr rfl 44 (.tmp 17) rfl b (of + i * 7) rfl B _ G.out rfl rfl (by rw [HBs.out]; rfl) ?_) | ((with_reducible show wpList _ _ _ (Oper.mk _ (Op.store _ (Operand.tmp 8) (Operand.tmp 18)) _ _ _ _ :: _) _ _); refine wpList_store_row rfl 44 (.tmp 8) (.tmp 18) rfl _ B rfl rfl 44 _ (heap_new rfl) (by rw [HBs.out]; rfl) (by rw [HBs.out]; rfl) HBc.out ?_; refine wpList_named ?_; intro W5 hW5; have u5 : Up wr W5 := (by rw [hW5]; exact below_setRow ((Up.refl wr).alloc _) (Nat.le_refl _) _); have x5 : W5.heap[wr.heap.size]? = some (.cells B 44 (0, 0)) := (by rw [hW5]; exact setRow_heap _ _ _ _ _ _ (heap_new rfl)); (have l6 : W5.cell? ⟨wr.heap.size, 6, none⟩ = some (.slice x.sp sn x.sc) := (cell_of_row W5 _ 6 _ _ _ x5).trans HB6.out); have U5 := Lib.hid u5; have X5 := Lib.hid x5; clear hW5 u5 x5) | ((with_reducible show wpList _ _ _ (Oper.mk _ (Op.load _ (Operand.tmp 20)) _ _ _ _ :: _) _ _); refine wpList_load_arr rfl 26 (.tmp 20) rfl wr.heap.size 0 rfl A _ (rangeAt_part X5.out 0 A HBA.out) rfl rfl (by rw [HAs.out]; rfl) ?_))
    refine (CM.out W5 U5.out).mono ?_
    rintro e W6 ⟨pd, cd, rfl, sbd, hc1, hc2, u6⟩
    have U6 : Hid (Up wr W6) := Up.trans U5.out u6
    have X6 := Lib.hid ((u6.block _ (lt_of_block X5.out)).trans X5.out)
    have XY6 := Lib.hid ((U6.out.block _ (lt_of_block XY.out)).trans XY.out)
    have SBD := Lib.hid sbd
    obtain ⟨nd, hnd⟩ : ∃ nd, nd = D.length := ⟨_, rfl⟩
    rw [← hnd]
    have HND := Lib.hid hnd
    clear u6 sbd hc1 hc2 CM X5 U5 l6 hnd G XY
    by_cases h0 : ee = 0
    case neg =>
      have d0 : (ee != 0) = true := by rw [bne_iff_ne]; exact h0
      have HN2 : Hid (sealedB a.o sls xs = (xs.drop (i + 1)).any (sealX a.o sls)) := HBN.out (by rw [HSX.out, decide_eq_false h0]; simp)
      have U7 : Hid (Up W1 W6) := Up.trans HU.out U6.out
      clear h0 HBN HSX HS
      go_wp2_with fail
      exact ⟨⟨i + 1, by omega, by go_num, HN2, U7⟩, by simp [intOf]; omega⟩
    subst h0
    have d0 : ((0 : Int) != 0) = false := by simp
    go_wp2_with (first | ((with_reducible show wpList _ _ _ (Oper.mk _ (Op.load _ (Operand.tmp 30)) _ _ _ _ :: _) _ _); refine wpList_load_arrG (by rfl) 26 (.tmp 30) rfl wr.heap.size 0 rfl A _ (rangeAt_part X6.out 0 A HBA.out) rfl rfl (by rw [HAs.out]; rfl) ?_) | ((with_reducible show wpList _ _ _ (Oper.mk _ (Op.load _ (Operand.tmp 3)) _ _ _ _ :: _) _ _); refine wpList_load_arrG (by rfl) 26 (.tmp 3) rfl b3 0 rfl Y _ (rangeAt_row XY6.out) rfl rfl (by rw [HYs.out]; rfl) ?_))
    refine (SM.out W6 U6.out).mono ?_
    rintro e W7 ⟨rfl, u7⟩
    have U7 : Hid (Up wr W7) := Up.trans U6.out u7
    have XY7 := Lib.hid ((u7.block _ (lt_of_block XY6.out)).trans XY6.out)
    have SBD7 := Lib.hid (SBD.out.up u7)
    clear u7 XY6 SBD X6 SM U6
    cases bq
    case false =>
      have HN2 : Hid (sealedB a.o sls xs = (xs.drop (i + 1)).any (sealX a.o sls)) := HBN.out (by rw [HSX.out]; simp)
      have U8 : Hid (Up W1 W7) := Up.trans HU.out U7.out
      clear HBN HSX HS
      go_wp2_with fail
      exact ⟨⟨i + 1, by omega, by go_num, HN2, U8⟩, by simp [intOf]; omega⟩
    have HI : Hid (sealX a.o sls x = sealIn a.o D sls) := by show _ = _; rw [HSX.out]; simp
    have HIM : Hid (i < m) := hlt
    obtain ⟨W8, hW8⟩ : ∃ W8, W8 = W7 := ⟨_, rfl⟩
    subst hW8
    have UW8 : Hid (Up W1 W8) := Up.trans HU.out U7.out
    clear HSX hlt HU U7 hi
    go_wp2_with fail
    go_loopw [38] (fun v38 wq => ∃ j : Nat, j ≤ n ∧ v38 = .int .i64 j ∧ Hid (sealIn a.o D sls = (sls.drop j).any (fun s => decide (s.farm = a.o.farm) && decide (s.dig = D))) ∧ Hid (Up W8 wq)) (fun v38 _ => n - (intOf v38).toNat)
    case atStart => exact ⟨0, by omega, rfl, rfl, Up.refl _⟩
    case round =>
      obtain ⟨j, hj, rfl, HJ, HU⟩ := hrel
      by_cases hlt : j < n
      case neg =>
        have HN2 : Hid (sealedB a.o sls xs = (xs.drop (i + 1)).any (sealX a.o sls)) := HBN.out (by rw [HI.out, HJ.out, List.drop_of_length_le (by rw [← HN.out]; omega)]; rfl)
        have U9 : Hid (Up W1 wr) := Up.trans UW8.out HU.out
        have hi1 : i + 1 ≤ m := HIM.out
        have hi2 : (i : Int) + 1 ≤ 101 := by omega
        have e1 : IntKind.i64.wrap ((i : Int) + 1) = ((i + 1 : Nat) : Int) := IntWalk.i64_in _ (by omega)
        clear HBN HI HJ HS
        go_wp2_with fail
        exact ⟨⟨i + 1, hi1, by go_num, HN2, U9⟩, by simp [intOf]; omega⟩
      have hjs : j < sls.length := by rw [← HN.out]; exact hlt
      obtain ⟨b1, o1, rfl, hp1⟩ := HR.out (by rintro rfl; simp at hjs)
      have UK := Up.trans U1.out (Up.trans UW8.out HU.out)
      have g := rangeAt_up (hp1 j hjs) UK
      have hsj := HSL.out _ (List.getElem_mem hjs)
      have hst := any_drop (fun s : SlA => decide (s.farm = a.o.farm) && decide (s.dig = D)) sls j hjs
      obtain ⟨s, hs⟩ : ∃ s, s = sls[j] := ⟨_, rfl⟩
      rw [← hs] at g hsj hst
      obtain ⟨sf, sdg, sp, sc⟩ := s
      obtain ⟨dn, hdn⟩ : ∃ dn, dn = sdg.length := ⟨_, rfl⟩
      have G : Hid (wr.rangeAt b1 (o1 + j * 2) (#[Value.int .i64 sf, Value.slice sp dn sc] : Array Value).toList) := by show wr.rangeAt _ _ _; rw [hdn]; exact g
      have q3 : ∀ O, (wr.alloc O).cell? ⟨b3, 1, none⟩ = some (.int .i64 fo) := fun O => cell_up ((cell_of_row wr b3 1 _ _ _ ((HU.out.block _ (lt_of_block XY7.out)).trans XY7.out)).trans HY1.out) ((Up.refl wr).alloc O)
      have q4 : ∀ O, (convert 27 9 (.slice sp dn sc)).run Tryd.prog (wr.alloc O) = .ok (.string (bsOf sdg)) (wr.alloc O) := fun O => by rw [hdn]; exact run_text_of _ sp sc sdg (hsj.sb.up (UK.alloc O))
      have q5 : ∀ O, (convert 27 9 (.slice pd nd cd)).run Tryd.prog (wr.alloc O) = .ok (.string (bsOf D)) (wr.alloc O) := fun O => by rw [HND.out]; exact run_text_of _ pd cd D (SBD7.out.up (HU.out.alloc O))
      have hst2 : sealIn a.o D sls = ((decide (sf = fo) && decide (sdg = D)) || (sls.drop (j + 1)).any (fun s => decide (s.farm = a.o.farm) && decide (s.dig = D))) := by rw [HJ.out, hst, HFO.out]
      have HST := Lib.hid hst2
      have UW9 : Hid (Up W8 wr) := HU.out
      clear hst hst2 hs hdn hsj g UK hp1 hjs HJ HU
      by_cases hf : sf = fo
      case neg =>
        have d2 : (sf == fo) = false := by rw [beq_eq_false_iff_ne]; exact hf
        have HJ2 : Hid (sealIn a.o D sls = (sls.drop (j + 1)).any (fun s => decide (s.farm = a.o.farm) && decide (s.dig = D))) := by show _ = _; rw [HST.out, decide_eq_false hf]; simp
        clear HST hf
        go_wp2_with (first | ((with_reducible show wpList _ _ _ (Oper.mk _ (Op.load _ (Operand.tmp 40)) _ _ _ _ :: _) _ _); refine wpList_load_arr rfl 52 (.tmp 40) rfl b1 (o1 + j * 2) rfl #[Value.int .i64 sf, Value.slice sp dn sc] _ G.out rfl rfl (by rfl) ?_))
        exact ⟨⟨j + 1, by omega, by go_num, HJ2, UW9.out.alloc _⟩, by simp [intOf]; omega⟩
      have d2 : (sf == fo) = true := by rw [hf]; simp
      have d3 := bs_eq sdg D
      by_cases hdg : sdg = D
      case neg =>
        rw [decide_eq_false hdg] at d3
        have HJ2 : Hid (sealIn a.o D sls = (sls.drop (j + 1)).any (fun s => decide (s.farm = a.o.farm) && decide (s.dig = D))) := by show _ = _; rw [HST.out, decide_eq_false hdg]; simp
        clear HST hf hdg
        go_wp2_with (first | ((with_reducible show wpList _ _ _ (Oper.mk _ (Op.load _ (Operand.tmp 40)) _ _ _ _ :: _) _ _); refine wpList_load_arr rfl 52 (.tmp 40) rfl b1 (o1 + j * 2) rfl #[Value.int .i64 sf, Value.slice sp dn sc] _ G.out rfl rfl (by rfl) ?_))
        exact ⟨⟨j + 1, by omega, by go_num, HJ2, UW9.out.alloc _⟩, by simp [intOf]; omega⟩
      rw [decide_eq_true hdg] at d3
      have hv : V = true := by rw [HS.out, HI.out, HST.out, decide_eq_true hf, decide_eq_true hdg]; simp
      subst hv
      clear HS HI HST hf hdg HV HBN
      go_wp2_with (first | ((with_reducible show wpList _ _ _ (Oper.mk _ (Op.load _ (Operand.tmp 40)) _ _ _ _ :: _) _ _); refine wpList_load_arr rfl 52 (.tmp 40) rfl b1 (o1 + j * 2) rfl #[Value.int .i64 sf, Value.slice sp dn sc] _ G.out rfl rfl (by rfl) ?_))
      go_ret
      exact ⟨rfl, Up.trans U1.out (Up.trans UW8.out (UW9.out.alloc _))⟩

end Go.Proofs.YtmifpokafaiebaaDoor
