/- the reference's Same, SameAll, SameNumbers, Small, Few. the reference's SameAll, SameNumbers, Small, Few. A REGION THAT DRAWS ITS ORDER, by a script: still ones, taken first as soon as they may come up, and forced ones, one behind the other. It names no program. the law's example; plain facts of its examples. -/
import Derived.Test.YtmifpokafaiebaaDoorOgB
import Derived.Test.YtmifpokafaiebaaDoorMix
import Derived.Test.YtmifpokafaiebaaDoorArr
namespace Go.Proofs.YtmifpokafaiebaaDoor
open Go Go.RowKit
set_option linter.unusedVariables false
set_option maxRecDepth 100000

deriving instance DecidableEq for Of
theorem run_neq_lot (a b a' b' : Int) (w : World) : (binOp .neq 61 (.agg #[.int .i64 a, .int .i64 b]) (.agg #[.int .i64 a', .int .i64 b'])).run Tryd.prog w = .ok (.bool (!(decide (a = a') && decide (b = b')))) w := by
  go_simp
  by_cases h1 : a = a' <;> by_cases h2 : b = b' <;> simp [h1, h2]
theorem run_neq_range (a b a' b' : Int) (w : World) : (binOp .neq 23 (.agg #[.int .i64 a, .int .i64 b]) (.agg #[.int .i64 a', .int .i64 b'])).run Tryd.prog w = .ok (.bool (!(decide (a = a') && decide (b = b')))) w := by
  go_simp
  by_cases h1 : a = a' <;> by_cases h2 : b = b' <;> simp [h1, h2]

set_option maxHeartbeats 8000000 in
theorem rsame_calls (a b : OfA) (w : World) (h1 : LtsAt w a) (h2 : LtsAt w b) (hl : a.o.lots.length ≤ 100000) :
    Calls Tryd.prog 44 #[.agg (ofCells a).toArray, .agg (ofCells b).toArray] w fun e w' => e = .returned (.bool (decide (a.o = b.o))) ∧ Up w w' := by
  obtain ⟨⟨no, fa, pr, lo, hi, la⟩, p, c⟩ := a
  obtain ⟨⟨no', fa', pr', lo', hi', lb⟩, q, d⟩ := b
  obtain ⟨r1, g1, g2⟩ := h1
  obtain ⟨r2, g3, g4⟩ := h2
  unfold ofCells
  simp only at r1 g1 g2 r2 g3 g4 hl ⊢
  obtain ⟨V, hV⟩ : ∃ V, V = decide ((⟨no, fa, pr, lo, hi, la⟩ : Of) = ⟨no', fa', pr', lo', hi', lb⟩) := ⟨_, rfl⟩
  rw [← hV]
  obtain ⟨n, hn⟩ : ∃ n, n = la.length := ⟨_, rfl⟩
  obtain ⟨m, hm⟩ : ∃ m, m = lb.length := ⟨_, rfl⟩
  rw [← hn] at g1 hl ⊢
  rw [← hm] at g3 ⊢
  have HN := Lib.hid hn
  have HM := Lib.hid hm
  have HV : Hid (V = decide ((⟨no, fa, pr, lo, hi, la⟩ : Of) = ⟨no', fa', pr', lo', hi', lb⟩)) := hV
  have R1 := Lib.hid r1
  have R2 := Lib.hid r2
  clear hn hm hV r1 r2
  by_cases e0 : no = no'
  case neg =>
    have d0 : (no != no') = true := by rw [bne_iff_ne]; exact e0
    have hv : V = false := by rw [HV.out]; exact decide_eq_false fun e => e0 (by injection e)
    subst hv
    clear e0 HV
    go_enter Tryd.func44, Tryd.ntmps44
    go_wp2_with fail
    go_ret
    exact ⟨rfl, ((Up.refl w).alloc _).alloc _⟩
  subst e0
  have d0 : (no != no) = false := by simp
  by_cases e1 : fa = fa'
  case neg =>
    have d1 : (fa != fa') = true := by rw [bne_iff_ne]; exact e1
    have hv : V = false := by rw [HV.out]; exact decide_eq_false fun e => e1 (by injection e)
    subst hv
    clear e1 HV
    go_enter Tryd.func44, Tryd.ntmps44
    go_wp2_with fail
    go_ret
    exact ⟨rfl, ((Up.refl w).alloc _).alloc _⟩
  subst e1
  have d1 : (fa != fa) = false := by simp
  by_cases e2 : pr = pr'
  case neg =>
    have d2 : (pr != pr') = true := by rw [bne_iff_ne]; exact e2
    have hv : V = false := by rw [HV.out]; exact decide_eq_false fun e => e2 (by injection e)
    subst hv
    clear e2 HV
    go_enter Tryd.func44, Tryd.ntmps44
    go_wp2_with fail
    go_ret
    exact ⟨rfl, ((Up.refl w).alloc _).alloc _⟩
  subst e2
  have d2 : (pr != pr) = false := by simp
  by_cases e3 : lo = lo' ∧ hi = hi'
  case neg =>
    have d3 := fun W => run_neq_range lo hi lo' hi' W
    have e4 : (!(decide (lo = lo') && decide (hi = hi'))) = true := by by_cases h1 : lo = lo' <;> by_cases h2 : hi = hi' <;> simp [h1, h2] at e3 ⊢
    simp only [e4] at d3
    have hv : V = false := by rw [HV.out]; exact decide_eq_false fun e => e3 (by injection e with _ _ _ h1 h2; exact ⟨h1, h2⟩)
    subst hv
    clear e3 e4 HV
    go_enter Tryd.func44, Tryd.ntmps44
    go_wp2_with fail
    go_ret
    exact ⟨rfl, ((Up.refl w).alloc _).alloc _⟩
  obtain ⟨rfl, rfl⟩ := e3
  have d3 := fun W => run_neq_range lo hi lo hi W
  simp only [decide_true, Bool.and_self, Bool.not_true] at d3
  by_cases e5 : n = m
  case neg =>
    have d5 : (((n : Nat) : Int) != ((m : Nat) : Int)) = true := by rw [bne_iff_ne]; omega
    have hv : V = false := by rw [HV.out]; exact decide_eq_false fun e => e5 (by injection e with _ _ _ _ _ h; rw [HN.out, HM.out, h])
    subst hv
    clear e5 HV
    go_enter Tryd.func44, Tryd.ntmps44
    go_wp2_with fail
    go_ret
    exact ⟨rfl, ((Up.refl w).alloc _).alloc _⟩
  subst e5
  have d5 : (((n : Nat) : Int) != ((n : Nat) : Int)) = false := by simp
  have HV2 : Hid (V = decide (la = lb)) := by
    show V = _; rw [HV.out]; simp
  clear HV
  go_enter Tryd.func44, Tryd.ntmps44
  go_wp2_with fail
  refine wp_named ?_
  intro W1 hW1
  have u1 : Up w W1 := by rw [hW1]; exact ((Up.refl w).alloc _).alloc _
  have x1 : W1.heap[w.heap.size]? = some (.cells #[.int .i64 no, .int .i64 fa, .int .i64 pr, .int .i64 lo, .int .i64 hi, .slice p n c] 26 (0, 0)) := by rw [hW1]; exact (heap_old (by simp +arith)).trans (heap_new rfl)
  have x2 : W1.heap[w.heap.size + 1]? = some (.cells #[.int .i64 no, .int .i64 fa, .int .i64 pr, .int .i64 lo, .int .i64 hi, .slice q n d] 26 (0, 0)) := by rw [hW1]; exact heap_new (by simp)
  have U1 := Lib.hid u1
  have X1 := Lib.hid x1
  have X2 := Lib.hid x2
  clear hW1 u1 x1 x2 d0 d1 d2 d3 d5
  go_loopw [5] (fun v5 wq => ∃ i : Nat, i ≤ n ∧ v5 = .int .i64 i ∧ Hid (la.take i = lb.take i) ∧ Hid (Up W1 wq)) (fun v5 _ => n - (intOf v5).toNat)
  case atStart => exact ⟨0, by omega, rfl, by simp [Lib.hid], Up.refl _⟩
  case round =>
    obtain ⟨i, hi, rfl, HT, HU⟩ := hrel
    have q1 : wr.cell? ⟨w.heap.size, 5, none⟩ = some (.slice p n c) := by rw [cell_of_row wr _ 5 _ _ _ ((HU.out.block _ (lt_of_block X1.out)).trans X1.out)]; rfl
    have q2 : wr.cell? ⟨w.heap.size + 1, 5, none⟩ = some (.slice q n d) := by rw [cell_of_row wr _ 5 _ _ _ ((HU.out.block _ (lt_of_block X2.out)).trans X2.out)]; rfl
    by_cases hlt : i < n
    case neg =>
      have hv : V = true := by
        rw [HV2.out, decide_eq_true_eq]
        have := HT.out
        rw [List.take_of_length_le (by rw [← HN.out]; omega), List.take_of_length_le (by rw [← HM.out]; omega)] at this
        exact this
      subst hv
      go_wp2
      go_ret
      exact ⟨rfl, Up.trans U1.out HU.out⟩
    have hil : i < la.length := by rw [← HN.out]; exact hlt
    have hik : i < lb.length := by rw [← HM.out]; exact hlt
    obtain ⟨b1, o1, rfl, hr1⟩ := R1.out (by rintro rfl; simp at hil)
    obtain ⟨b2, o2, rfl, hr2⟩ := R2.out (by rintro rfl; simp at hik)
    have g1 := rangeAt_up (hr1 i hil) (Up.trans U1.out HU.out)
    have g2 := rangeAt_up (hr2 i hik) (Up.trans U1.out HU.out)
    have htk1 := List.take_succ_eq_append_getElem hil
    have htk2 := List.take_succ_eq_append_getElem hik
    have hne : la[i] ≠ lb[i] → V = false := fun hne => by
      rw [HV2.out]
      exact decide_eq_false fun e => hne (by simp only [e])
    obtain ⟨x, hxx⟩ : ∃ x, x = la[i] := ⟨_, rfl⟩
    obtain ⟨y, hyy⟩ : ∃ y, y = lb[i] := ⟨_, rfl⟩
    rw [← hxx] at g1 htk1 hne
    rw [← hyy] at g2 htk2 hne
    obtain ⟨x1, x2⟩ := x
    obtain ⟨y1, y2⟩ := y
    have EQ := fun W => run_neq_lot x1 x2 y1 y2 W
    have G1 := Lib.hid (show wr.rangeAt b1 (o1 + i * 2) (#[Value.int .i64 x1, Value.int .i64 x2] : Array Value).toList from g1)
    have G2 := Lib.hid (show wr.rangeAt b2 (o2 + i * 2) (#[Value.int .i64 y1, Value.int .i64 y2] : Array Value).toList from g2)
    obtain ⟨bb, hbb⟩ : ∃ bb, bb = (!(decide (x1 = y1) && decide (x2 = y2))) := ⟨_, rfl⟩
    rw [← hbb] at EQ
    have HBB := Lib.hid hbb
    have HNE := Lib.hid hne
    have H1 := Lib.hid htk1
    have H2 := Lib.hid htk2
    have Q1 : ∀ z : UpW wr.drew, z.w.cell? ⟨w.heap.size, 5, none⟩ = some (.slice (some ⟨b1, o1, none⟩) n c) := fun z => cell_up q1 (Up.trans (Up.refl wr).drew z.up)
    have Q2 : ∀ z : UpW wr.drew, z.w.cell? ⟨w.heap.size + 1, 5, none⟩ = some (.slice (some ⟨b2, o2, none⟩) n d) := fun z => cell_up q2 (Up.trans (Up.refl wr).drew z.up)
    clear hbb hne htk1 htk2 hxx hyy g1 g2 hr1 hr2
    go_wp2_with fail
    haveI := UpW.some_ wr.drew
    have hz := Lib.hid fun (z : UpW wr.drew) => (Up.trans (Up.refl wr).drew z.up : Up wr z.w)
    refine wp_region_up_k (by kernel_rfl) (by kernel_rfl) ?_
    intro R HRR
    have HRR' := Lib.hid HRR
    clear HRR q1 q2
    repeat (first | ((with_reducible show wpQuiet _ _ _ _ (Oper.mk _ (Op.load _ (Operand.tmp 51)) _ _ _ _ :: _) _); refine wpQuiet_load_arr (by rfl) 61 (.tmp 51) rfl b1 (o1 + i * 2) rfl #[Value.int .i64 x1, Value.int .i64 x2] _ (fun w' hw' => by (obtain ⟨z, rfl⟩ := hw'; exact rangeAt_up G1.out (hz.out z))) rfl rfl (by rfl) ?_) | ((with_reducible show wpQuiet _ _ _ _ (Oper.mk _ (Op.load _ (Operand.tmp 56)) _ _ _ _ :: _) _); refine wpQuiet_load_arr (by rfl) 61 (.tmp 56) rfl b2 (o2 + i * 2) rfl #[Value.int .i64 y1, Value.int .i64 y2] _ (fun w' hw' => by (obtain ⟨z, rfl⟩ := hw'; exact rangeAt_up G2.out (hz.out z))) rfl rfl (by rfl) ?_) | (with_reducible refine wpQuiet_step (fun K hK => ?_); go_simp; with_reducible refine hK _ ?_; clear hK K))
    refine wpQuiet_nil ?_
    refine HRR'.out _ ?_
    rintro w4 ⟨z, hz4⟩
    have U4 : Hid (Up W1 w4) := by show Up _ _; rw [hz4]; exact Up.trans HU.out (hz.out z)
    clear hz4 HRR' hz EQ Q1 Q2
    cases bb
    case true =>
      have hv : V = false := HNE.out (fun e => by have := HBB.out; injection e with e1 e2; simp [e1, e2] at this)
      subst hv
      go_wp2
      go_ret
      exact ⟨rfl, Up.trans U1.out U4.out⟩
    have hxy : ((x1, x2) : Int × Int) = (y1, y2) := by have := HBB.out; simp at this; rw [this.1, this.2]
    have HT2 : Hid (la.take (i + 1) = lb.take (i + 1)) := by show _ = _; rw [H1.out, H2.out, HT.out, hxy]
    clear hxy
    go_wp2
    exact ⟨⟨i + 1, by omega, by go_num, HT2, U4⟩, by simp [intOf]; omega⟩

end Go.Proofs.YtmifpokafaiebaaDoor

namespace Go.Proofs.YtmifpokafaiebaaDoor
open Go Go.RowKit
set_option linter.unusedVariables false
set_option maxRecDepth 100000

set_option maxHeartbeats 8000000 in
theorem rsameAll_calls (p q : Option Addr) (n m c d : Nat) (A B : List OfA) (w : World) (hn : n = A.length) (hm : m = B.length) (hnm : n ≤ 100000) (hc : n ≤ c) (hcm : c ≤ maxLen) (hd : m ≤ d) (hdm : d ≤ maxLen) (h1 : RowAt w p 6 ofCells A) (h2 : RowAt w q 6 ofCells B) (ha : ∀ a ∈ A, LtsAt w a ∧ a.o.lots.length ≤ 100000) (hb : ∀ b ∈ B, LtsAt w b) :
    Calls Tryd.prog 21 #[.slice p n c, .slice q m d] w fun e w' => e = .returned (.bool (decide (A.map OfA.o = B.map OfA.o))) ∧ Up w w' := by
  by_cases hlen : n = m
  case neg =>
    have hv : decide (A.map OfA.o = B.map OfA.o) = false := decide_eq_false fun e => hlen (by rw [hn, hm]; have := congrArg List.length e; simpa using this)
    have d1 : (((n : Nat) : Int) != ((m : Nat) : Int)) = true := by rw [bne_iff_ne]; omega
    rw [hv]
    clear hv hn hm
    go_enter Tryd.func21, Tryd.ntmps21
    go_wp2
    go_ret
    exact ⟨rfl, Up.refl _⟩
  subst hlen
  obtain ⟨V, hV⟩ : ∃ V, V = decide (A.map OfA.o = B.map OfA.o) := ⟨_, rfl⟩
  rw [← hV]
  have HV := Lib.hid hV
  have HN := Lib.hid hn
  have HM := Lib.hid hm
  have R1 := Lib.hid h1
  have R2 := Lib.hid h2
  have HA := Lib.hid ha
  have HB := Lib.hid hb
  clear ha hb
  clear hV hn hm h1 h2
  go_enter Tryd.func21, Tryd.ntmps21
  go_wp2
  go_loopw [5] (fun v5 wq => ∃ i : Nat, i ≤ n ∧ v5 = .int .i64 i ∧ Hid ((A.map OfA.o).take i = (B.map OfA.o).take i) ∧ Hid (Up w wq)) (fun v5 _ => n - (intOf v5).toNat)
  case atStart => exact ⟨0, by omega, rfl, by simp [Lib.hid], Up.refl _⟩
  case round =>
    obtain ⟨i, hi, rfl, HT, HU⟩ := hrel
    by_cases hlt : i < n
    case neg =>
      have hv : V = true := by
        rw [HV.out, decide_eq_true_eq]
        have := HT.out
        rw [List.take_of_length_le (by simp only [List.length_map]; rw [← HN.out]; omega), List.take_of_length_le (by simp only [List.length_map]; rw [← HM.out]; omega)] at this
        exact this
      subst hv
      go_wp2
      go_ret
      exact ⟨rfl, HU.out⟩
    have hil : i < A.length := by rw [← HN.out]; exact hlt
    have hik : i < B.length := by rw [← HM.out]; exact hlt
    obtain ⟨b1, o1, rfl, hr1⟩ := R1.out (by rintro rfl; simp at hil)
    obtain ⟨b2, o2, rfl, hr2⟩ := R2.out (by rintro rfl; simp at hik)
    have g1 := rangeAt_up (hr1 i hil) HU.out
    have g2 := rangeAt_up (hr2 i hik) HU.out
    have hx := HA.out _ (List.getElem_mem hil)
    have hy := HB.out _ (List.getElem_mem hik)
    have htk1 := List.take_succ_eq_append_getElem (l := A.map OfA.o) (i := i) (by simpa using hil)
    have htk2 := List.take_succ_eq_append_getElem (l := B.map OfA.o) (i := i) (by simpa using hik)
    rw [List.getElem_map] at htk1 htk2
    have hne : A[i].o ≠ B[i].o → V = false := fun hne => by
      rw [HV.out]
      refine decide_eq_false fun e => hne ?_
      have e1 : (A.map OfA.o)[i]'(by simpa using hil) = (B.map OfA.o)[i]'(by simpa using hik) := by simp only [e]
      simpa using e1
    obtain ⟨x, hxx⟩ : ∃ x, x = A[i] := ⟨_, rfl⟩
    obtain ⟨y, hyy⟩ : ∃ y, y = B[i] := ⟨_, rfl⟩
    rw [← hxx] at g1 hx htk1 hne
    rw [← hyy] at g2 hy htk2 hne
    have SM := Lib.hid fun W (hu : Up wr W) => rsame_calls x y W (hx.1.up (Up.trans HU.out hu)) (hy.up (Up.trans HU.out hu)) hx.2
    have As : Hid ((ofCells x).toArray.size = 6) := rfl
    have Bs : Hid ((ofCells y).toArray.size = 6) := rfl
    have G1 := Lib.hid (show wr.rangeAt b1 (o1 + i * 6) (ofCells x).toArray.toList from g1)
    have G2 := Lib.hid (show wr.rangeAt b2 (o2 + i * 6) (ofCells y).toArray.toList from g2)
    obtain ⟨X, hX⟩ : ∃ X, X = (ofCells x).toArray := ⟨_, rfl⟩
    obtain ⟨Y, hY⟩ : ∃ Y, Y = (ofCells y).toArray := ⟨_, rfl⟩
    rw [← hX] at SM As G1
    rw [← hY] at SM Bs G2
    obtain ⟨bb, hbb⟩ : ∃ bb, bb = decide (x.o = y.o) := ⟨_, rfl⟩
    rw [← hbb] at SM
    have HBB := Lib.hid hbb
    have HNE := Lib.hid hne
    have H1 := Lib.hid htk1
    have H2 := Lib.hid htk2
    clear hX hY hbb hne htk1 htk2 hxx hyy hx hy g1 g2 hr1 hr2
    go_wp2_with fail
    haveI := UpW.some_ wr.drew
    have hz := Lib.hid fun (z : UpW wr.drew) => (Up.trans (Up.refl wr).drew z.up : Up wr z.w)
    refine wp_region_up_k (by kernel_rfl) (by kernel_rfl) ?_
    intro R HRR
    have HRR' := Lib.hid HRR
    clear HRR
    repeat (first | ((with_reducible show wpQuiet _ _ _ _ (Oper.mk _ (Op.load _ (Operand.tmp 20)) _ _ _ _ :: _) _); refine wpQuiet_load_arr (by rfl) 26 (.tmp 20) rfl b1 (o1 + i * 6) rfl X _ (fun w' hw' => by (obtain ⟨z, rfl⟩ := hw'; exact rangeAt_up G1.out (hz.out z))) rfl rfl (by rw [As.out]; rfl) ?_) | ((with_reducible show wpQuiet _ _ _ _ (Oper.mk _ (Op.load _ (Operand.tmp 24)) _ _ _ _ :: _) _); refine wpQuiet_load_arr (by rfl) 26 (.tmp 24) rfl b2 (o2 + i * 6) rfl Y _ (fun w' hw' => by (obtain ⟨z, rfl⟩ := hw'; exact rangeAt_up G2.out (hz.out z))) rfl rfl (by rw [Bs.out]; rfl) ?_) | ((with_reducible show wpQuiet _ _ _ _ (Oper.mk (some 26) _ _ _ _ _ :: _) _); with_reducible refine wpQuiet_step (fun K hK => ?_); go_simp; apply Exists.intro; refine ⟨fun _ => ?_, hK _ ?_⟩; (go_at_call 44; with_reducible exact Calls.quiet_up (SM.out _ (hz.out _))); clear hK K) | (with_reducible refine wpQuiet_step (fun K hK => ?_); go_simp; with_reducible refine hK _ ?_; clear hK K))
    refine wpQuiet_nil ?_
    refine HRR'.out _ ?_
    rintro w4 ⟨z, hz4⟩
    have U4 : Hid (Up w w4) := by show Up _ _; rw [hz4]; exact Up.trans HU.out (hz.out z)
    clear hz4 HRR' hz SM
    cases bb
    case false =>
      have hv : V = false := HNE.out (fun e => by have := HBB.out; simp [e] at this)
      subst hv
      go_wp2
      go_ret
      exact ⟨rfl, U4.out⟩
    have hxy : x.o = y.o := by have := HBB.out; simpa using this
    have HT2 : Hid ((A.map OfA.o).take (i + 1) = (B.map OfA.o).take (i + 1)) := by show _ = _; rw [H1.out, H2.out, HT.out, hxy]
    clear hxy
    go_wp2
    exact ⟨⟨i + 1, by omega, by go_num, HT2, U4⟩, by simp [intOf]; omega⟩


set_option maxHeartbeats 8000000 in
theorem rsameNumbers_calls (p q : Option Addr) (n m c d : Nat) (A B : List Int) (w : World) (hn : n = A.length) (hm : m = B.length) (hnm : n ≤ 100000) (hc : n ≤ c) (hcm : c ≤ maxLen) (hd : m ≤ d) (hdm : d ≤ maxLen) (h1 : RowAt w p 1 iEnc A) (h2 : RowAt w q 1 iEnc B) :
    Calls Tryd.prog 22 #[.slice p n c, .slice q m d] w fun e w' => e = .returned (.bool (decide (A = B))) ∧ Up w w' := by
  by_cases hlen : n = m
  case neg =>
    have hv : decide (A = B) = false := decide_eq_false fun e => hlen (by rw [hn, hm]; rw [e])
    have d1 : (((n : Nat) : Int) != ((m : Nat) : Int)) = true := by rw [bne_iff_ne]; omega
    rw [hv]
    clear hv hn hm
    go_enter Tryd.func22, Tryd.ntmps22
    go_wp2
    go_ret
    exact ⟨rfl, Up.refl _⟩
  subst hlen
  obtain ⟨V, hV⟩ : ∃ V, V = decide (A = B) := ⟨_, rfl⟩
  rw [← hV]
  have HV := Lib.hid hV
  have HN := Lib.hid hn
  have HM := Lib.hid hm
  have R1 := Lib.hid h1
  have R2 := Lib.hid h2
  clear hV hn hm h1 h2
  go_enter Tryd.func22, Tryd.ntmps22
  go_wp2
  go_loopw [5] (fun v5 wq => ∃ i : Nat, i ≤ n ∧ v5 = .int .i64 i ∧ Hid ((A).take i = (B).take i) ∧ Hid (Up w wq)) (fun v5 _ => n - (intOf v5).toNat)
  case atStart => exact ⟨0, by omega, rfl, by simp [Lib.hid], Up.refl _⟩
  case round =>
    obtain ⟨i, hi, rfl, HT, HU⟩ := hrel
    by_cases hlt : i < n
    case neg =>
      have hv : V = true := by
        rw [HV.out, decide_eq_true_eq]
        have := HT.out
        rw [List.take_of_length_le (by rw [← HN.out]; omega), List.take_of_length_le (by rw [← HM.out]; omega)] at this
        exact this
      subst hv
      go_wp2
      go_ret
      exact ⟨rfl, HU.out⟩
    have hil : i < A.length := by rw [← HN.out]; exact hlt
    have hik : i < B.length := by rw [← HM.out]; exact hlt
    obtain ⟨b1, o1, rfl, hr1⟩ := R1.out (by rintro rfl; simp at hil)
    obtain ⟨b2, o2, rfl, hr2⟩ := R2.out (by rintro rfl; simp at hik)
    have g1 : wr.cell? ⟨b1, o1 + i, none⟩ = some (.int .i64 A[i]) := by have := rangeAt_up (hr1 i hil) HU.out 0 _ rfl; simpa using this
    have g2 : wr.cell? ⟨b2, o2 + i, none⟩ = some (.int .i64 B[i]) := by have := rangeAt_up (hr2 i hik) HU.out 0 _ rfl; simpa using this
    have htk1 := List.take_succ_eq_append_getElem hil
    have htk2 := List.take_succ_eq_append_getElem hik
    have hne : A[i] ≠ B[i] → V = false := fun hne => by
      rw [HV.out]
      exact decide_eq_false fun e => hne (by simp only [e])
    obtain ⟨x, hxx⟩ : ∃ x, x = A[i] := ⟨_, rfl⟩
    obtain ⟨y, hyy⟩ : ∃ y, y = B[i] := ⟨_, rfl⟩
    rw [← hxx] at g1 htk1 hne
    rw [← hyy] at g2 htk2 hne
    have k1 : ∀ z : UpW wr.drew, z.w.cell? ⟨b1, o1 + i, none⟩ = some (.int .i64 x) := fun z => cell_up g1 (Up.trans (Up.refl wr).drew z.up)
    have k2 : ∀ z : UpW wr.drew, z.w.cell? ⟨b2, o2 + i, none⟩ = some (.int .i64 y) := fun z => cell_up g2 (Up.trans (Up.refl wr).drew z.up)
    obtain ⟨bb, hbb⟩ : ∃ bb, bb = (x != y) := ⟨_, rfl⟩
    have EQ : (x != y) = bb := hbb.symm
    have HBB : Hid (bb = (x != y)) := hbb
    have HNE := Lib.hid hne
    have H1 := Lib.hid htk1
    have H2 := Lib.hid htk2
    clear hbb hne htk1 htk2 hxx hyy g1 g2 hr1 hr2
    go_wp2_with fail
    haveI := UpW.some_ wr.drew
    have hz := Lib.hid fun (z : UpW wr.drew) => (Up.trans (Up.refl wr).drew z.up : Up wr z.w)
    refine wp_region_up_k (by kernel_rfl) (by kernel_rfl) ?_
    intro R HRR
    have HRR' := Lib.hid HRR
    clear HRR
    repeat (with_reducible refine wpQuiet_step (fun K hK => ?_); go_simp; with_reducible refine hK _ ?_; clear hK K)
    refine wpQuiet_nil ?_
    refine HRR'.out _ ?_
    rintro w4 ⟨z, hz4⟩
    have U4 : Hid (Up w w4) := by show Up _ _; rw [hz4]; exact Up.trans HU.out (hz.out z)
    clear hz4 HRR' hz EQ k1 k2
    cases bb
    case true =>
      have hv : V = false := HNE.out (fun e => by have := HBB.out; simp [e] at this)
      subst hv
      go_wp2
      go_ret
      exact ⟨rfl, U4.out⟩
    have hxy : x = y := by have := HBB.out; simpa using this
    have HT2 : Hid (A.take (i + 1) = B.take (i + 1)) := by show _ = _; rw [H1.out, H2.out, HT.out, hxy]
    clear hxy HBB
    go_wp2
    exact ⟨⟨i + 1, by omega, by go_num, HT2, U4⟩, by simp [intOf]; omega⟩


def smallB (a : Of) (sn : Nat) : Bool := decide (a.lots.length ≤ 20) && decide (sn ≤ 100)
theorem rsmall_calls (a : OfA) (sp : Option Addr) (sn sc : Nat) (w : World) :
    Calls Tryd.prog 11 #[.agg (ofCells a).toArray, .slice sp sn sc] w fun e w' => e = .returned (.bool (smallB a.o sn)) ∧ Up w w' := by
  obtain ⟨o, p, c⟩ := a
  unfold ofCells smallB
  simp only
  obtain ⟨m, hm⟩ : ∃ m, m = o.lots.length := ⟨_, rfl⟩
  rw [← hm]
  clear hm
  by_cases h1 : m ≤ 20
  case neg =>
    have d1 : decide ((m : Int) ≤ 20) = false := by simp; omega
    have e1 : decide (m ≤ 20) = false := by simp; omega
    rw [e1, Bool.false_and]
    clear h1 e1
    go_enter Tryd.func11, Tryd.ntmps11
    go_wp2
    go_ret
    exact ⟨rfl, (Up.refl w).alloc _⟩
  have d1 : decide ((m : Int) ≤ 20) = true := by simp; omega
  have e1 : decide (m ≤ 20) = true := by simp; omega
  rw [e1, Bool.true_and]
  obtain ⟨b, hb⟩ : ∃ b, b = decide (sn ≤ 100) := ⟨_, rfl⟩
  have d2 : decide ((sn : Int) ≤ 100) = b := by rw [hb, decide_eq_decide]; omega
  rw [← hb]
  clear h1 e1 hb
  go_enter Tryd.func11, Tryd.ntmps11
  go_wp2
  go_ret
  exact ⟨rfl, (Up.refl w).alloc _⟩

end Go.Proofs.YtmifpokafaiebaaDoor

namespace Go.Proofs.YtmifpokafaiebaaDoor
open Go

section
variable {P : Program} {ops : Array Oper} {md : Region.Mode} {C : World → Prop} {Q : Exit → Act → World → Prop}

/-- true: a still one -/
def wpScript (P : Program) (ops : Array Oper) (C : World → Prop) (Q : Exit → Act → World → Prop) : List (Bool × Oper) → Act → World → Prop
  | [], a, w => Q .normal a w
  | (true, o) :: rest, a, w => if Region.wanted o (yielded ops a.tmps) then (∃ v, (∀ w, C w → o.quietAt P a (fun w'' => w'' = w) w v) ∧ wpScript P ops C Q rest (a.put o.dst v) w) else wpScript P ops C Q rest (a.put o.dst undef) w
  | (false, o) :: rest, a, w => if Region.wanted o (yielded ops a.tmps) then o.wp P a w (fun a' w' => C w' ∧ wpScript P ops C Q rest a' w') Q else C w ∧ wpScript P ops C Q rest (a.put o.dst undef) w
theorem wpScript_nil {a : Act} {w : World} (h : Q .normal a w) : wpScript P ops C Q [] a w := h
theorem wpScript_still {a : Act} {w : World} {o : Oper} {rest : List (Bool × Oper)}
    (h : ∀ K : Act → Prop, (∀ a, wpScript P ops C Q rest a w → K a) → if Region.wanted o (yielded ops a.tmps) then (∃ v, (∀ w, C w → o.quietAt P a (fun w'' => w'' = w) w v) ∧ K (a.put o.dst v)) else K (a.put o.dst undef)) : wpScript P ops C Q ((true, o) :: rest) a w :=
  h _ (fun _ h => h)
theorem wpScript_chain {a : Act} {w : World} {o : Oper} {rest : List (Bool × Oper)}
    (h : ∀ K : Act → World → Prop, (∀ a' w', C w' → wpScript P ops C Q rest a' w' → K a' w') → if Region.wanted o (yielded ops a.tmps) then o.wp P a w K Q else K (a.put o.dst undef) w) : wpScript P ops C Q ((false, o) :: rest) a w :=
  h _ (fun _ _ h1 h2 => ⟨h1, h2⟩)
theorem wpScript_want {a : Act} {w : World} {o : Oper} {rest : List (Bool × Oper)} (hw : Region.wanted o (yielded ops a.tmps) = true)
    (h : ∀ K : Act → World → Prop, (∀ a' w', C w' → wpScript P ops C Q rest a' w' → K a' w') → o.wp P a w K Q) : wpScript P ops C Q ((false, o) :: rest) a w :=
  wpScript_chain fun K hK => by rw [if_pos hw]; exact h K hK

def Region.scriptN (md : Region.Mode) (ops : Array Oper) : List (Bool × Nat) → Array Bool → Bool
  | [], listed => (Region.ready md ops listed).isEmpty
  | (true, k) :: s, listed => (ops[k]?).isSome && (Region.ready md ops listed).contains k && Region.free md ops listed k && Region.scriptN md ops s (listed.setIfInBounds k true)
  | (false, k) :: s, listed => (ops[k]?).isSome && decide (Region.ready md ops listed = [k]) && Region.scriptN md ops s (listed.setIfInBounds k true)
def pick2 (l : List Oper) : List (Bool × Nat) → List (Bool × Oper)
  | [] => []
  | (b, i) :: is => match l[i]? with
    | some o => (b, o) :: pick2 l is
    | none => pick2 l is

theorem wpAnyH_of_script {l : List Oper} (hsel : Region.noSelect l.toArray = true) (hQ : ∀ c a d v w, Q (.panic c) (a.put d v) w → Q (.panic c) a w) :
    ∀ (s : List (Bool × Nat)) (listed : Array Bool) (a : Act) (w : World), C w → Region.scriptN md l.toArray s listed = true → wpScript P l.toArray C Q (pick2 l s) a w → wpAnyH P md l.toArray Q C s.length listed a w
  | [], listed, a, w, _, hB, h => ⟨by simpa [Region.scriptN] using hB, h⟩
  | (true, k) :: s, listed, a, w, hC, hB, h => by
    simp only [Region.scriptN, Bool.and_eq_true] at hB
    obtain ⟨⟨⟨hs, hr⟩, hf⟩, hB'⟩ := hB
    obtain ⟨o, ho⟩ := Option.isSome_iff_exists.1 hs
    have ho' : l[k]? = some o := by simpa using ho
    simp only [pick2, ho'] at h
    rw [List.length_cons]
    unfold wpScript at h
    by_cases hw : Region.wanted o (yielded l.toArray a.tmps) = true
    · simp only [hw, if_true] at h
      obtain ⟨v, hv, h2⟩ := h
      exact mix_first ho (Region.noSelect_spec hsel) hQ _ listed a w (Region.free_spec ho hf) (by simpa using hr) (.inl ⟨hw, hv⟩) hC (wpAnyH_of_script hsel hQ s _ _ w hC hB' h2)
    · simp only [hw] at h
      exact mix_first ho (Region.noSelect_spec hsel) hQ _ listed a w (Region.free_spec ho hf) (by simpa using hr) (.inr ⟨by simpa using hw, rfl⟩) hC (wpAnyH_of_script hsel hQ s _ _ w hC hB' h)
  | (false, k) :: s, listed, a, w, hC, hB, h => by
    simp only [Region.scriptN, Bool.and_eq_true, decide_eq_true_eq] at hB
    obtain ⟨⟨hs, hr⟩, hB'⟩ := hB
    obtain ⟨o, ho⟩ := Option.isSome_iff_exists.1 hs
    have ho' : l[k]? = some o := by simpa using ho
    simp only [pick2, ho'] at h
    refine ⟨fun h0 => (by rw [hr] at h0; cases h0), fun i hi => ?_⟩
    rw [hr] at hi
    have hik : i = k := by simpa using hi
    subst hik
    have hw : wpOp P l.toArray Q i (fun a' w' => C w' ∧ wpScript P l.toArray C Q (pick2 l s) a' w') a w := by
      unfold wpOp
      simp only [ho]
      unfold wpScript at h
      split
      · rename_i hwt; simp only [hwt, if_true] at h; exact .inl h
      · rename_i hwt; simp only [hwt] at h; exact h
    exact wpOp_mono (fun a' w' h' => ⟨h'.1, wpAnyH_of_script hsel hQ s _ a' w' h'.1 hB' h'.2⟩) hw

/-- **THE LAW** -/
theorem wp_region_script_at {id : Nat} {a : Act} {w : World} {l : List Oper} (s : List (Bool × Nat)) (hm : P.follows .mixedOrders = true)
    (hB : (Region.noSelect l.toArray && decide (s.length = l.length) && Region.scriptN .any l.toArray s (Array.replicate l.length false)) = true)
    (hQ : ∀ c a d v w, Q (.panic c) (a.put d v) w → Q (.panic c) a w)
    (h : ∀ W : World, Up w W → W.heap = w.heap → ∃ C : World → Prop, C W ∧ wpScript P l.toArray (fun w' => ∃ x : InC C, w' = x.w) Q (pick2 l s) a W) : (Code.region id l.toArray true).wp P Q a w := by
  obtain ⟨C, hC, h2⟩ := h w.drew (Up.refl w).drew rfl
  simp only [Bool.and_eq_true, decide_eq_true_eq] at hB
  obtain ⟨⟨hsel, hlen⟩, hmix⟩ := hB
  have := wpAnyH_of_script (md := .any) hsel hQ s _ a w.drew ⟨⟨w.drew, hC⟩, rfl⟩ hmix h2
  refine wp_region_any hm (wpAny_of_held (S := fun w' => ∃ x : InC C, w' = x.w) _ _ _ _ ?_)
  rw [hlen] at this
  simpa using this
theorem wpScript_load_arr {a : Act} {w : World} {rest : List (Bool × Oper)} {o : Oper} (hw : Region.wanted o (yielded ops a.tmps) = true) (ty : TypeId) (x : Operand) (ho : o.op = .load ty x)
    (b off : Nat) (hx : a.eval x = .pointer (some ⟨b, off, none⟩)) (D : Array Value) (d : TypeDesc) (hc : ∀ w, C w → w.rangeAt b off D.toList)
    (hu : P.underlying ty = some d) (hd : d.isRow = true) (hi : (P.info? ty).map (·.size) = some D.size)
    (h : wpScript P ops C Q rest (a.put o.dst (.agg D)) w) : wpScript P ops C Q ((true, o) :: rest) a w := by
  unfold wpScript
  rw [if_pos hw]
  refine ⟨.agg D, fun w hw' => ?_, h⟩
  have hr := run_load_arr (P := P) (w := w) (hc w hw') hu hd hi
  unfold Oper.quietAt execOp
  rw [ho]
  simp only [hx, Sem.run_bind, hr, Result.andThen_ok, Sem.run_pure]
  exact ⟨rfl, rfl⟩
end

end Go.Proofs.YtmifpokafaiebaaDoor

namespace Go.Proofs.YtmifpokafaiebaaDoor
open Go Go.RowKit
set_option linter.unusedVariables false
set_option maxRecDepth 100000

/-- Reveal's answer, its lengths under names -/
structure RevR (w w' : World) (L : List Of) (N : List Int) (n k : Nat) (p q : Option Addr) (c d : Nat) (A : List OfA) : Prop where
  eq : A.map OfA.o = L
  len : A.length = n
  row : RowAt w' p 6 ofCells A
  lts : ∀ a ∈ A, LtsAt w' a
  c1 : n ≤ c
  c2 : c ≤ maxLen
  row2 : RowAt w' q 1 iEnc N
  len2 : N.length = k
  d1 : k ≤ d
  d2 : d ≤ maxLen
  up : Up w w'
theorem RetR.lit {w w' : World} {L : List Of} {N : List Int} {err : Int} {e : Ending} {n k : Nat} (h : RetR w L N err e w') (hn : L.length = n) (hk : N.length = k) :
    ∃ p c q d A, e = .returned (.tuple #[.slice p n c, .slice q k d, .int .i64 err]) ∧ RevR w w' L N n k p q c d A := by
  subst hn hk
  obtain ⟨p, c, q, d, A, h1, h2, h3, h4, h5, h6, h7, h8, h9, h10⟩ := h
  exact ⟨p, c, q, d, A, h1, ⟨h2, by rw [← h2, List.length_map], h3, h4, h5, h6, h7, rfl, h8, h9, h10⟩⟩
theorem RevR.kept {w w' w'' : World} {L : List Of} {N : List Int} {n k : Nat} {p q : Option Addr} {c d : Nat} {A : List OfA} (h : RevR w w' L N n k p q c d A) (hu : Up w' w'') : RevR w w'' L N n k p q c d A :=
  ⟨h.eq, h.len, h.row.kept2 hu, fun a ha => (h.lts a ha).up hu, h.c1, h.c2, h.row2.kept2 hu, h.len2, h.d1, h.d2, Up.trans h.up hu⟩

def exO (no farm : Int) : Of := ⟨no, farm, -5, 3, 9, [(1, -40), (4, 40)]⟩
def exA (no farm : Int) (b : Nat) : OfA := ⟨exO no farm, some ⟨b, 0, none⟩, 2⟩
theorem ltsAt_ex {w : World} {no farm : Int} {b : Nat} {t : TypeId} (h : w.heap[b]? = some (.cells #[.int .i64 1, .int .i64 (-40), .int .i64 4, .int .i64 40] t (0, 0))) : LtsAt w (exA no farm b) :=
  ⟨rowAt_block (D := #[.int .i64 1, .int .i64 (-40), .int .i64 4, .int .i64 40]) (fun _ _ => rfl) rfl h, Nat.le_refl _, by show 2 ≤ maxLen; unfold maxLen; omega⟩
set_option maxHeartbeats 1000000 in
theorem example_calls (no farm : Int) (w : World) : Calls Tryd.prog 27 #[.int .i64 no, .int .i64 farm] w
    fun e w' => ∃ b, e = .returned (.agg #[.int .i64 no, .int .i64 farm, .int .i64 (-5), .int .i64 3, .int .i64 9, .slice (some ⟨b, 0, none⟩) 2 2]) ∧ LtsAt w' (exA no farm b) ∧ Up w w' := by
  go_enter Tryd.func27, Tryd.ntmps27
  go_wp2_with fail
  refine bodyPost_ret (results_cell_row rfl _ _ w.heap.size 26 #[.int .i64 no, .int .i64 farm, .int .i64 (-5), .int .i64 3, .int .i64 9, .slice (some ⟨w.heap.size + 1, 0, none⟩) 2 2] (0, 0) _ rfl ((heap_old (by simp +arith)).trans (heap_new rfl)) rfl rfl (by rfl)) rfl ?_
  exact ⟨w.heap.size + 1, rfl, ltsAt_ex (heap_new (by simp)), ((Up.refl w).alloc _).alloc _⟩

/-! ### plain -/
def z16 : List UInt8 := List.replicate 16 0
def z15 : List UInt8 := List.replicate 15 0
theorem ex_msg : msgE (exO 7 2) z16 = 0 := by decide
theorem ex_short : msgE (exO 7 2) z15 = 440 := by decide
theorem ex_nosalt : msgE (exO 8 2) [] = 440 := by decide
theorem ex_zero : chkO ⟨0, 0, 0, 0, 0, []⟩ = 440 := by decide
theorem ex_ok0 : chkO (exO 0 0) = 0 := by decide
theorem ex_big : chkO ⟨0, 0, 0, 0, 0, List.replicate 9 (0, 0)⟩ = 2 := by decide
section
variable (D : List UInt8) (x y : OpA)
theorem ex_st1 (h : opKey x = some (2, D)) : stK opKey [(3, D), (2, D), (2, D)] [x] = [none, some x, none] := by simp [stK, useK, fillK, h, List.replicate]
theorem ex_st2 (h : opKey x = some (2, D)) (hy : opKey y = none) : stK opKey [(3, D), (2, D), (2, D)] [x, x, x, y] = [none, some x, some x] := by simp [stK, useK, fillK, h, hy, List.replicate]
theorem ex_st3 : stK opKey [(3, D), (2, D), (2, D)] [] = [none, none, none] := by simp [stK, List.replicate]
end
def exS (D : List UInt8) (p : Option Addr) (c : Nat) : List SlA := [⟨3, D, p, c⟩, ⟨2, D, p, c⟩, ⟨2, D, p, c⟩]
theorem exS_all (D : List UInt8) (p : Option Addr) (c : Nat) (h : D.length = 32) : ((exS D p c).all fun s => !badSl s) = true := by simp [exS, badSl, h]
theorem exS_e (D : List UInt8) (p : Option Addr) (c : Nat) (h : D.length = 32) (xs : List OpA) (hx : xs.length ≤ 64) : revE (exS D p c) xs = 0 := by
  unfold revE
  rw [if_neg (by show ¬ (64 < 3 ∨ _); omega), if_pos (exS_all D p c h)]
theorem ex_rev1 (D : List UInt8) (p : Option Addr) (c : Nat) (x : OpA) (h : D.length = 32) (hk : opKey x = some (2, D)) : revO (exS D p c) [x] = [x.a.o] ∧ revS (exS D p c) [x] = [0, 2] := by
  unfold revO revS
  rw [exS_e D p c h [x] (by simp), if_pos rfl, if_pos rfl, revSt, show (exS D p c).map slKey = [(3, D), (2, D), (2, D)] from rfl, ex_st1 D x hk]
  exact ⟨by simp [outs], by simp [sil]⟩
theorem ex_rev2 (D : List UInt8) (p : Option Addr) (c : Nat) (x y : OpA) (h : D.length = 32) (hk : opKey x = some (2, D)) (hy : opKey y = none) : revO (exS D p c) [x, x, x, y] = [x.a.o] ∧ revS (exS D p c) [x, x, x, y] = [0] := by
  unfold revO revS
  rw [exS_e D p c h [x, x, x, y] (by simp), if_pos rfl, if_pos rfl, revSt, show (exS D p c).map slKey = [(3, D), (2, D), (2, D)] from rfl, ex_st2 D x y hk hy]
  exact ⟨by simp [outs, opNo], by simp [sil]⟩
theorem ex_rev3 (D : List UInt8) (p : Option Addr) (c : Nat) (h : D.length = 32) : revO (exS D p c) [] = [] ∧ revS (exS D p c) [] = [0, 1, 2] := by
  unfold revO revS
  rw [exS_e D p c h [] (by simp), if_pos rfl, if_pos rfl, revSt, show (exS D p c).map slKey = [(3, D), (2, D), (2, D)] from rfl, ex_st3 D]
  exact ⟨by simp [outs], by simp [sil]⟩
theorem ex_rev4 : revE [] [] = 0 ∧ revO [] [] = [] ∧ revS [] [] = [] := by
  have h : revE [] [] = 0 := by unfold revE; simp
  refine ⟨h, ?_, ?_⟩
  · unfold revO; rw [if_pos h]; rfl
  · unfold revS; rw [if_pos h]; rfl
theorem ex_rev5 (p : Option Addr) (c : Nat) (D : List UInt8) (h : D.length = 31) : revE [⟨0, D, p, c⟩] [] = 440 ∧ revO [⟨0, D, p, c⟩] [] = [] ∧ revS [⟨0, D, p, c⟩] [] = [] := by
  have h : revE [⟨0, D, p, c⟩] [] = 440 := by
    unfold revE
    rw [if_neg (by show ¬ (64 < 1 ∨ 64 < 0); omega), if_neg (by simp [badSl, h])]
  refine ⟨h, ?_, ?_⟩
  · unfold revO; rw [h, if_neg (by decide)]
  · unfold revS; rw [h, if_neg (by decide)]

end Go.Proofs.YtmifpokafaiebaaDoor
