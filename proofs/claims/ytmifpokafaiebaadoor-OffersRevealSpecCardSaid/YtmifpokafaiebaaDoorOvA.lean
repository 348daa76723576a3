/- the reference's within, valid, Check. the reference's Int, Text, List, Ints; its Check of an offer. the reference's Check and Message of an offer. the reference's Message where it answers, Commit. the reference's Commit. -/
import Derived.Test.YtmifpokafaiebaaDoorLbP
namespace Go.Proofs.YtmifpokafaiebaaDoor
open Go Go.RowKit
set_option linter.unusedVariables false
set_option maxRecDepth 100000

theorem rwithin_calls (n lo hi : Int) (w : World) : Calls Tryd.prog 52 #[.int .i64 n, .int .i64 lo, .int .i64 hi] w fun e w' => e = .returned (.bool (decide (lo ≤ n) && decide (n ≤ hi))) ∧ Up w w' := by
  by_cases h : lo ≤ n
  · have d : decide (lo ≤ n) = true := by simpa using h
    rw [d, Bool.true_and]
    clear h
    go_enter Tryd.func52, Tryd.ntmps52
    go_wp2
    go_ret
    exact ⟨rfl, Up.refl _⟩
  · have d : decide (lo ≤ n) = false := by simpa using h
    rw [d, Bool.false_and]
    clear h
    go_enter Tryd.func52, Tryd.ntmps52
    go_wp2
    go_ret
    exact ⟨rfl, Up.refl _⟩

set_option maxHeartbeats 16000000 in
theorem rvalid_calls (a : OfA) (w : World) (h : LtsAt w a) (h8 : a.o.lots.length ≤ 8) : Calls Tryd.prog 36 #[.agg (ofCells a).toArray] w fun e w' => e = .returned (.bool (!badHead a.o && lotsB (-1) a.o.lots)) ∧ Up w w' := by
  obtain ⟨o, p, c⟩ := a
  obtain ⟨hr, hc, hcm⟩ := h
  unfold ofCells
  simp only at hr hc hcm h8 ⊢
  obtain ⟨m, hm⟩ : ∃ m, m = o.lots.length := ⟨_, rfl⟩
  rw [← hm] at hc h8 ⊢
  obtain ⟨V, hV⟩ : ∃ V, V = (!badHead o && lotsB (-1) o.lots) := ⟨_, rfl⟩
  rw [← hV]
  obtain ⟨a1, ha1⟩ : ∃ b, b = (decide (0 ≤ o.no) && decide (o.no ≤ 1048576)) := ⟨_, rfl⟩
  obtain ⟨a2, ha2⟩ : ∃ b, b = (decide (0 ≤ o.farm) && decide (o.farm ≤ 599)) := ⟨_, rfl⟩
  obtain ⟨a3, ha3⟩ : ∃ b, b = (decide (-1073741824 ≤ o.price) && decide (o.price ≤ 1073741824)) := ⟨_, rfl⟩
  obtain ⟨a4, ha4⟩ : ∃ b, b = (decide (0 ≤ o.lo) && decide (o.lo ≤ o.hi)) := ⟨_, rfl⟩
  obtain ⟨a5, ha5⟩ : ∃ b, b = decide (10000 < o.hi) := ⟨_, rfl⟩
  have w1 := Lib.hid fun W => rwithin_calls o.no 0 1048576 W
  have w2 := Lib.hid fun W => rwithin_calls o.farm 0 599 W
  have w3 := Lib.hid fun W => rwithin_calls o.price (-1073741824) 1073741824 W
  have w4 := Lib.hid fun W => rwithin_calls o.lo 0 o.hi W
  have d5 : decide (10000 < o.hi) = a5 := ha5.symm
  have hbh : badHead o = (!a1 || !a2 || !a3 || !a4 || a5 || decide (m = 0)) := by
    unfold badHead
    rw [ha1, ha2, ha3, ha4, ha5, hm]
    rw [Bool.eq_iff_iff]
    simp only [Bool.or_eq_true, Bool.not_eq_true', Bool.and_eq_false_iff, decide_eq_true_eq, decide_eq_false_iff_not]
    omega
  rw [hbh] at hV
  rw [← ha1] at w1
  rw [← ha2] at w2
  rw [← ha3] at w3
  rw [← ha4] at w4
  have HV := Lib.hid hV
  have HM := Lib.hid hm
  have HRW := Lib.hid hr
  clear hV hm hr ha1 ha2 ha3 ha4 ha5 hbh
  go_enter Tryd.func36, Tryd.ntmps36
  go_wp2_with fail
  obtain ⟨bo, hbo⟩ : ∃ b, b = w.heap.size := ⟨_, rfl⟩
  refine calls_named0 ?_
  intro W1 hW1
  have u1 : Up w W1 := by rw [hW1]; exact (Up.refl w).alloc _
  have x1 : W1.heap[bo]? = some (.cells #[.int .i64 o.no, .int .i64 o.farm, .int .i64 o.price, .int .i64 o.lo, .int .i64 o.hi, .slice p m c] 26 (0, 0)) := by rw [hW1]; exact heap_new hbo
  rw [← hbo]
  have U1 := Lib.hid u1
  have X1 := Lib.hid x1
  clear hW1 u1 x1 hbo
  refine (w1.out W1).mono ?_
  rintro e W2 ⟨rfl, u2⟩
  have U2 : Hid (Up w W2) := Up.trans U1.out u2
  have X2 := Lib.hid ((u2.block _ (lt_of_block X1.out)).trans X1.out)
  have l1_1 : W2.cell? ⟨bo, 1, none⟩ = some (.int .i64 o.farm) := by rw [cell_of_row W2 bo 1 _ _ _ X2.out]; rfl
  clear u2 w1 X1 U1
  cases a1
  case false =>
    have hv : V = false := by rw [HV.out]; simp
    subst hv
    clear HV
    go_wp2_with fail
    go_ret
    exact ⟨rfl, U2.out⟩
  go_wp2_with fail
  clear l1_1
  refine (w2.out W2).mono ?_
  rintro e W3 ⟨rfl, u3⟩
  have U3 : Hid (Up w W3) := Up.trans U2.out u3
  have X3 := Lib.hid ((u3.block _ (lt_of_block X2.out)).trans X2.out)
  have l2_2 : W3.cell? ⟨bo, 2, none⟩ = some (.int .i64 o.price) := by rw [cell_of_row W3 bo 2 _ _ _ X3.out]; rfl
  clear u3 w2 X2 U2
  cases a2
  case false =>
    have hv : V = false := by rw [HV.out]; simp
    subst hv
    clear HV
    go_wp2_with fail
    go_ret
    exact ⟨rfl, U3.out⟩
  go_wp2_with fail
  clear l2_2
  refine (w3.out W3).mono ?_
  rintro e W4 ⟨rfl, u4⟩
  have U4 : Hid (Up w W4) := Up.trans U3.out u4
  have X4 := Lib.hid ((u4.block _ (lt_of_block X3.out)).trans X3.out)
  have l3_3 : W4.cell? ⟨bo, 3, none⟩ = some (.int .i64 o.lo) := by rw [cell_of_row W4 bo 3 _ _ _ X4.out]; rfl
  have l3_4 : W4.cell? ⟨bo, 4, none⟩ = some (.int .i64 o.hi) := by rw [cell_of_row W4 bo 4 _ _ _ X4.out]; rfl
  clear u4 w3 X3 U3
  cases a3
  case false =>
    have hv : V = false := by rw [HV.out]; simp
    subst hv
    clear HV
    go_wp2_with fail
    go_ret
    exact ⟨rfl, U4.out⟩
  go_wp2_with fail
  clear l3_3 l3_4
  refine (w4.out W4).mono ?_
  rintro e W5 ⟨rfl, u5⟩
  have U5 : Hid (Up w W5) := Up.trans U4.out u5
  have X5 := Lib.hid ((u5.block _ (lt_of_block X4.out)).trans X4.out)
  have l4_4 : W5.cell? ⟨bo, 4, none⟩ = some (.int .i64 o.hi) := by rw [cell_of_row W5 bo 4 _ _ _ X5.out]; rfl
  clear u5 w4 X4 U4
  cases a4
  case false =>
    have hv : V = false := by rw [HV.out]; simp
    subst hv
    clear HV
    go_wp2_with fail
    go_ret
    exact ⟨rfl, U5.out⟩
  cases a5
  case true =>
    have hv : V = false := by rw [HV.out]; simp
    subst hv
    clear HV
    go_wp2_with fail
    go_ret
    exact ⟨rfl, U5.out⟩
  have HV2 : Hid (V = (decide (m ≠ 0) && lotsB (-1) o.lots)) := by show V = _; rw [HV.out]; by_cases h : m = 0 <;> simp [h]
  clear HV
  go_wp2_with fail
  clear l4_4
  go_loopw [3] (fun v3 wq => ∃ (i : Nat) (last : Int), i ≤ m ∧ v3 = .int .i64 i ∧ -1 ≤ last ∧ Hid (i = 0 → last = -1) ∧ Hid (∀ j (h : j < o.lots.length), i = j + 1 → (o.lots[j]).1 = last ∧ 0 ≤ last) ∧ Hid (lotsB (-1) o.lots = lotsB last (o.lots.drop i)) ∧ Hid (Up W5 wq)) (fun v3 _ => m - (intOf v3).toNat)
  case atStart => exact ⟨0, -1, by omega, rfl, by omega, fun _ => rfl, fun j _ h => by omega, rfl, Up.refl _⟩
  case round =>
    obtain ⟨i, last, hi, rfl, hlast, HL0, HLJ, HB, HU⟩ := hrel
    have hX := (HU.out.block _ (lt_of_block X5.out)).trans X5.out
    have q5 : wr.cell? ⟨bo, 5, none⟩ = some (.slice p m c) := by rw [cell_of_row wr bo 5 _ _ _ hX]; rfl
    have XR := Lib.hid hX
    clear hX
    by_cases hlt : i < m
    case neg =>
      have hin : i = m := by omega
      have hv : V = decide (m ≠ 0) := by
        rw [HV2.out, HB.out, List.drop_of_length_le (by rw [← HM.out]; omega)]; simp [lotsB]
      clear HV2 HB
      by_cases h0 : m = 0
      · have d9 : decide (0 < m) = false := by simp; omega
        rw [decide_eq_false (by omega)] at hv
        subst hv
        clear h0
        go_wp2_with fail
        go_ret
        exact ⟨rfl, Up.trans U5.out HU.out⟩
      · have d9 : decide (0 < m) = true := by simp; omega
        rw [decide_eq_true h0] at hv
        subst hv
        clear h0
        go_wp2_with fail
        go_ret
        exact ⟨rfl, Up.trans U5.out HU.out⟩
    have hil : i < o.lots.length := by rw [← HM.out]; exact hlt
    have hm0 : m ≠ 0 := by omega
    obtain ⟨b, off, rfl, hpr⟩ := HRW.out (by rintro hh; rw [hh] at hil; simp at hil)
    have g := rangeAt_up (hpr i hil) (Up.trans U5.out HU.out)
    have hst := lotsB_drop last o.lots i hil
    obtain ⟨x, hx⟩ : ∃ x, x = o.lots[i] := ⟨_, rfl⟩
    rw [← hx] at g hst
    have hnx : ∀ j (h : j < o.lots.length), i + 1 = j + 1 → (o.lots[j]).1 = x.1 := fun j h e => by
      have : j = i := by omega
      subst this; rw [hx]
    have hpv : ∀ k, i = k + 1 → wr.cell? ⟨b, off + k * 2, none⟩ = some (.int .i64 last) ∧ 0 ≤ last := fun k hk => by
      have hkl : k < o.lots.length := by omega
      have h1 := HLJ.out k hkl hk
      refine ⟨?_, h1.2⟩
      have := rangeAt_up (hpr k hkl) (Up.trans U5.out HU.out) 0 _ rfl
      rw [← h1.1]
      simpa using this
    have G : Hid (wr.rangeAt b (off + i * 2) (#[Value.int .i64 x.1, Value.int .i64 x.2] : Array Value).toList) := g
    have HST := Lib.hid hst
    have HNX := Lib.hid hnx
    have HPV := Lib.hid hpv
    have HV3 : Hid (V = lotsB last (o.lots.drop i)) := by show V = _; rw [HV2.out, decide_eq_true hm0, Bool.true_and, HB.out]
    obtain ⟨b1, hb1⟩ : ∃ b, b = (decide (0 ≤ x.1) && decide (x.1 ≤ 7)) := ⟨_, rfl⟩
    obtain ⟨b3, hb3⟩ : ∃ b, b = (decide (-1073741824 ≤ x.2) && decide (x.2 ≤ 1073741824)) := ⟨_, rfl⟩
    obtain ⟨b4, hb4⟩ : ∃ b, b = (x.2 == 0) := ⟨_, rfl⟩
    have C1 := Lib.hid fun W => rwithin_calls x.1 0 7 W
    have C3 := Lib.hid fun W => rwithin_calls x.2 (-1073741824) 1073741824 W
    rw [← hb1] at C1
    rw [← hb3] at C3
    have d4 : (x.2 == 0) = b4 := hb4.symm
    have HBAD : Hid (∀ le : Bool, (i = 0 → le = false) → (i ≠ 0 → le = decide (x.1 ≤ last)) → badLot last x = (!b1 || le || !b3 || b4)) := fun le h0 h1 => by
      unfold badLot
      rw [hb1, hb3, hb4]
      by_cases hi0 : i = 0
      · rw [h0 hi0, HL0.out hi0]
        by_cases c1 : x.1 ≤ -1 <;> by_cases c2 : 8 ≤ x.1 <;> by_cases c3 : x.2 = 0 <;> by_cases c4 : x.2 < -1073741824 <;> by_cases c5 : 1073741824 < x.2 <;> simp [c1, c2, c3, c4, c5] <;> omega
      · have hl0 := (HPV.out (i - 1) (by omega)).2
        rw [h1 hi0]
        by_cases c1 : x.1 ≤ last <;> by_cases c2 : 8 ≤ x.1 <;> by_cases c3 : x.2 = 0 <;> by_cases c4 : x.2 < -1073741824 <;> by_cases c5 : 1073741824 < x.2 <;> simp [c1, c2, c3, c4, c5] <;> omega
    have HI64 : Hid (i < 1000) := by show _ < _; omega
    have HBE := Lib.hid HB.out
    have HB1 : Hid (b1 = true → 0 ≤ x.1) := fun h => by rw [hb1] at h; simp at h; exact h.1
    clear hx g hst hnx hpv hpr hb1 hb3 hb4 HB hil hm0 HV2
    go_wp2_with (first | ((with_reducible show wpList _ _ _ (Oper.mk _ (Op.load _ (Operand.tmp 47)) _ _ _ _ :: _) _ _); refine wpList_load_arr rfl 61 (.tmp 47) rfl b (off + i * 2) rfl #[Value.int .i64 x.1, Value.int .i64 x.2] _ G.out rfl rfl (by rfl) ?_))
    haveI := UpW.some_ (wr.alloc (Obj.cells #[Value.int .i64 x.1, Value.int .i64 x.2] 61 (0, 0))).drew
    obtain ⟨bl, hbl⟩ : ∃ b, b = wr.heap.size := ⟨_, rfl⟩
    rw [← hbl]
    obtain ⟨W7, hW7⟩ : ∃ W, W = wr.alloc (Obj.cells #[Value.int .i64 x.1, Value.int .i64 x.2] 61 (0, 0)) := ⟨_, rfl⟩
    rw [← hW7] at this ⊢
    have u7 : Up wr W7 := by rw [hW7]; exact (Up.refl wr).alloc _
    have x7 : W7.heap[bl]? = some (.cells #[Value.int .i64 x.1, Value.int .i64 x.2] 61 (0, 0)) := by rw [hW7]; exact heap_new hbl
    have hz := Lib.hid fun (z : UpW W7.drew) => (Up.trans (Up.refl W7).drew z.up : Up W7 z.w)
    have U7 := Lib.hid u7
    have X7 := Lib.hid x7
    clear hW7 hbl u7 x7
    have k0 : ∀ z : UpW W7.drew, z.w.cell? ⟨bl, 0, none⟩ = some (.int .i64 x.1) := fun z => cell_up (by rw [cell_of_row W7 bl 0 _ _ _ X7.out]; rfl) (hz.out z)
    have k1 : ∀ z : UpW W7.drew, z.w.cell? ⟨bl, 1, none⟩ = some (.int .i64 x.2) := fun z => cell_up (by rw [cell_of_row W7 bl 1 _ _ _ X7.out]; rfl) (hz.out z)
    have k5 : ∀ z : UpW W7.drew, z.w.cell? ⟨bo, 5, none⟩ = some (.slice (some ⟨b, off, none⟩) m c) := fun z => cell_up q5 (Up.trans U7.out (hz.out z))
    clear q5
    have HX7 : Hid (b1 = true → 0 ≤ x.1) := HB1
    cases b1
    case false =>
      have hv : V = false := by rw [HV3.out, HST.out, HBAD.out (decide (x.1 ≤ last) && decide (i ≠ 0)) (fun h => by simp [h]) (fun h => by simp [h])]; simp
      subst hv
      clear HV3 HST HBAD k1 k5
      refine wp_region_up_k (by kernel_rfl) (by kernel_rfl) ?_
      intro R HRR
      have HRR' := Lib.hid HRR
      clear HRR
      repeat (first | ((with_reducible show wpQuiet _ _ _ _ (Oper.mk (some 51) _ _ _ _ _ :: _) _); with_reducible refine wpQuiet_step (fun K hK => ?_); go_simp; apply Exists.intro; refine ⟨fun _ => ?_, hK _ ?_⟩; (go_at_call 52; with_reducible exact Calls.quiet_up (C1.out _)); clear hK K) | ((with_reducible show wpQuiet _ _ _ _ (Oper.mk (some 72) _ _ _ _ _ :: _) _); with_reducible refine wpQuiet_step (fun K hK => ?_); go_simp; apply Exists.intro; refine ⟨fun _ => ?_, hK _ ?_⟩; (go_at_call 52; with_reducible exact Calls.quiet_up (C3.out _)); clear hK K) | go_big_quiet_skip | (with_reducible refine wpQuiet_step (fun K hK => ?_); go_simp; with_reducible refine hK _ ?_; clear hK K))
      refine wpQuiet_nil ?_
      refine HRR'.out _ ?_
      rintro w4 ⟨z, hz4⟩
      have U4 : Hid (Up W5 w4) := by show Up _ _; rw [hz4]; exact Up.trans HU.out (Up.trans U7.out (hz.out z))
      clear hz4 HRR' hz C1 C3 X7 U7
      go_wp2_with fail
      go_ret
      exact ⟨rfl, Up.trans U5.out U4.out⟩
    have HW0 : Hid (0 ≤ x.1) := HX7.out rfl
    have HW1 : Hid (-1 ≤ x.1) := by show _ ≤ _; have := HW0.out; omega
    clear HX7
    by_cases hi0 : i = 0
    case pos =>
      have e0 : decide (0 < i) = false := by simp; omega
      have HBD := Lib.hid (HBAD.out false (fun _ => rfl) (fun h => absurd hi0 h))
      clear HBAD hi0
      cases b3
      case false =>
        have hv : V = false := by rw [HV3.out, HST.out, HBD.out]; simp
        subst hv
        clear HV3 HST
        refine wp_region_up_k (by kernel_rfl) (by kernel_rfl) ?_
        intro R HRR
        have HRR' := Lib.hid HRR
        clear HRR
        repeat (first | ((with_reducible show wpQuiet _ _ _ _ (Oper.mk (some 51) _ _ _ _ _ :: _) _); with_reducible refine wpQuiet_step (fun K hK => ?_); go_simp; apply Exists.intro; refine ⟨fun _ => ?_, hK _ ?_⟩; (go_at_call 52; with_reducible exact Calls.quiet_up (C1.out _)); clear hK K) | ((with_reducible show wpQuiet _ _ _ _ (Oper.mk (some 72) _ _ _ _ _ :: _) _); with_reducible refine wpQuiet_step (fun K hK => ?_); go_simp; apply Exists.intro; refine ⟨fun _ => ?_, hK _ ?_⟩; (go_at_call 52; with_reducible exact Calls.quiet_up (C3.out _)); clear hK K) | go_big_quiet_skip | (with_reducible refine wpQuiet_step (fun K hK => ?_); go_simp; with_reducible refine hK _ ?_; clear hK K))
        refine wpQuiet_nil ?_
        refine HRR'.out _ ?_
        rintro w4 ⟨z, hz4⟩
        have U4 : Hid (Up W5 w4) := by show Up _ _; rw [hz4]; exact Up.trans HU.out (Up.trans U7.out (hz.out z))
        clear hz4 HRR' hz C1 C3 X7 U7
        go_wp2_with fail
        go_ret
        exact ⟨rfl, Up.trans U5.out U4.out⟩
      cases b4
      case true =>
        have hv : V = false := by rw [HV3.out, HST.out, HBD.out]; simp
        subst hv
        clear HV3 HST
        refine wp_region_up_k (by kernel_rfl) (by kernel_rfl) ?_
        intro R HRR
        have HRR' := Lib.hid HRR
        clear HRR
        repeat (first | ((with_reducible show wpQuiet _ _ _ _ (Oper.mk (some 51) _ _ _ _ _ :: _) _); with_reducible refine wpQuiet_step (fun K hK => ?_); go_simp; apply Exists.intro; refine ⟨fun _ => ?_, hK _ ?_⟩; (go_at_call 52; with_reducible exact Calls.quiet_up (C1.out _)); clear hK K) | ((with_reducible show wpQuiet _ _ _ _ (Oper.mk (some 72) _ _ _ _ _ :: _) _); with_reducible refine wpQuiet_step (fun K hK => ?_); go_simp; apply Exists.intro; refine ⟨fun _ => ?_, hK _ ?_⟩; (go_at_call 52; with_reducible exact Calls.quiet_up (C3.out _)); clear hK K) | go_big_quiet_skip | (with_reducible refine wpQuiet_step (fun K hK => ?_); go_simp; with_reducible refine hK _ ?_; clear hK K))
        refine wpQuiet_nil ?_
        refine HRR'.out _ ?_
        rintro w4 ⟨z, hz4⟩
        have U4 : Hid (Up W5 w4) := by show Up _ _; rw [hz4]; exact Up.trans HU.out (Up.trans U7.out (hz.out z))
        clear hz4 HRR' hz C1 C3 X7 U7
        go_wp2_with fail
        go_ret
        exact ⟨rfl, Up.trans U5.out U4.out⟩
      have HG : Hid (lotsB (-1) o.lots = lotsB x.1 (o.lots.drop (i + 1))) := by show _ = _; rw [HBE.out, HST.out, HBD.out]; simp
      clear HV3 HST HBD
      refine wp_region_up_k (by kernel_rfl) (by kernel_rfl) ?_
      intro R HRR
      have HRR' := Lib.hid HRR
      clear HRR
      repeat (first | ((with_reducible show wpQuiet _ _ _ _ (Oper.mk (some 51) _ _ _ _ _ :: _) _); with_reducible refine wpQuiet_step (fun K hK => ?_); go_simp; apply Exists.intro; refine ⟨fun _ => ?_, hK _ ?_⟩; (go_at_call 52; with_reducible exact Calls.quiet_up (C1.out _)); clear hK K) | ((with_reducible show wpQuiet _ _ _ _ (Oper.mk (some 72) _ _ _ _ _ :: _) _); with_reducible refine wpQuiet_step (fun K hK => ?_); go_simp; apply Exists.intro; refine ⟨fun _ => ?_, hK _ ?_⟩; (go_at_call 52; with_reducible exact Calls.quiet_up (C3.out _)); clear hK K) | go_big_quiet_skip | (with_reducible refine wpQuiet_step (fun K hK => ?_); go_simp; with_reducible refine hK _ ?_; clear hK K))
      refine wpQuiet_nil ?_
      refine HRR'.out _ ?_
      rintro w4 ⟨z, hz4⟩
      have U4 : Hid (Up W5 w4) := by show Up _ _; rw [hz4]; exact Up.trans HU.out (Up.trans U7.out (hz.out z))
      clear hz4 HRR' hz C1 C3 X7 U7
      go_wp2_with fail
      exact ⟨⟨i + 1, x.1, by omega, by go_num, HW1.out, fun h => by omega, fun j hj h => ⟨HNX.out j hj h, HW0.out⟩, HG, U4⟩, by simp [intOf]; omega⟩
    obtain ⟨j, rfl⟩ : ∃ j, i = j + 1 := ⟨i - 1, by omega⟩
    have kp : ∀ z : UpW W7.drew, z.w.cell? ⟨b, off + j * 2, none⟩ = some (.int .i64 last) := fun z => cell_up (HPV.out j rfl).1 (Up.trans U7.out (hz.out z))
    have ei : IntKind.i64.wrap (j : Int) = (j : Int) := IntWalk.i64_in _ (by have := HI64.out; omega)
    have ej : IntKind.i64.wrap ((j : Int) + 1 - 1) = (j : Int) := by rw [show (j : Int) + 1 - 1 = (j : Int) by omega]; exact ei
    have hjm : j < m := by omega
    have HBD := Lib.hid (HBAD.out (decide (x.1 ≤ last)) (fun h => absurd h hi0) (fun _ => rfl))
    clear HBAD hi0 HPV
    cases le : decide (x.1 ≤ last)
    case true =>
      rw [le] at HBD
      have hv : V = false := by rw [HV3.out, HST.out, HBD.out]; simp
      subst hv
      clear HV3 HST
      refine wp_region_up_k (by kernel_rfl) (by kernel_rfl) ?_
      intro R HRR
      have HRR' := Lib.hid HRR
      clear HRR
      repeat (first | ((with_reducible show wpQuiet _ _ _ _ (Oper.mk (some 51) _ _ _ _ _ :: _) _); with_reducible refine wpQuiet_step (fun K hK => ?_); go_simp; apply Exists.intro; refine ⟨fun _ => ?_, hK _ ?_⟩; (go_at_call 52; with_reducible exact Calls.quiet_up (C1.out _)); clear hK K) | ((with_reducible show wpQuiet _ _ _ _ (Oper.mk (some 72) _ _ _ _ _ :: _) _); with_reducible refine wpQuiet_step (fun K hK => ?_); go_simp; apply Exists.intro; refine ⟨fun _ => ?_, hK _ ?_⟩; (go_at_call 52; with_reducible exact Calls.quiet_up (C3.out _)); clear hK K) | go_big_quiet_skip | (with_reducible refine wpQuiet_step (fun K hK => ?_); go_simp; with_reducible refine hK _ ?_; clear hK K))
      refine wpQuiet_nil ?_
      refine HRR'.out _ ?_
      rintro w4 ⟨z, hz4⟩
      have U4 : Hid (Up W5 w4) := by show Up _ _; rw [hz4]; exact Up.trans HU.out (Up.trans U7.out (hz.out z))
      clear hz4 HRR' hz C1 C3 X7 U7
      go_wp2_with fail
      go_ret
      exact ⟨rfl, Up.trans U5.out U4.out⟩
    rw [le] at HBD
    cases b3
    case false =>
      have hv : V = false := by rw [HV3.out, HST.out, HBD.out]; simp
      subst hv
      clear HV3 HST
      refine wp_region_up_k (by kernel_rfl) (by kernel_rfl) ?_
      intro R HRR
      have HRR' := Lib.hid HRR
      clear HRR
      repeat (first | ((with_reducible show wpQuiet _ _ _ _ (Oper.mk (some 51) _ _ _ _ _ :: _) _); with_reducible refine wpQuiet_step (fun K hK => ?_); go_simp; apply Exists.intro; refine ⟨fun _ => ?_, hK _ ?_⟩; (go_at_call 52; with_reducible exact Calls.quiet_up (C1.out _)); clear hK K) | ((with_reducible show wpQuiet _ _ _ _ (Oper.mk (some 72) _ _ _ _ _ :: _) _); with_reducible refine wpQuiet_step (fun K hK => ?_); go_simp; apply Exists.intro; refine ⟨fun _ => ?_, hK _ ?_⟩; (go_at_call 52; with_reducible exact Calls.quiet_up (C3.out _)); clear hK K) | go_big_quiet_skip | (with_reducible refine wpQuiet_step (fun K hK => ?_); go_simp; with_reducible refine hK _ ?_; clear hK K))
      refine wpQuiet_nil ?_
      refine HRR'.out _ ?_
      rintro w4 ⟨z, hz4⟩
      have U4 : Hid (Up W5 w4) := by show Up _ _; rw [hz4]; exact Up.trans HU.out (Up.trans U7.out (hz.out z))
      clear hz4 HRR' hz C1 C3 X7 U7
      go_wp2_with fail
      go_ret
      exact ⟨rfl, Up.trans U5.out U4.out⟩
    cases b4
    case true =>
      have hv : V = false := by rw [HV3.out, HST.out, HBD.out]; simp
      subst hv
      clear HV3 HST
      refine wp_region_up_k (by kernel_rfl) (by kernel_rfl) ?_
      intro R HRR
      have HRR' := Lib.hid HRR
      clear HRR
      repeat (first | ((with_reducible show wpQuiet _ _ _ _ (Oper.mk (some 51) _ _ _ _ _ :: _) _); with_reducible refine wpQuiet_step (fun K hK => ?_); go_simp; apply Exists.intro; refine ⟨fun _ => ?_, hK _ ?_⟩; (go_at_call 52; with_reducible exact Calls.quiet_up (C1.out _)); clear hK K) | ((with_reducible show wpQuiet _ _ _ _ (Oper.mk (some 72) _ _ _ _ _ :: _) _); with_reducible refine wpQuiet_step (fun K hK => ?_); go_simp; apply Exists.intro; refine ⟨fun _ => ?_, hK _ ?_⟩; (go_at_call 52; with_reducible exact Calls.quiet_up (C3.out _)); clear hK K) | go_big_quiet_skip | (with_reducible refine wpQuiet_step (fun K hK => ?_); go_simp; with_reducible refine hK _ ?_; clear hK K))
      refine wpQuiet_nil ?_
      refine HRR'.out _ ?_
      rintro w4 ⟨z, hz4⟩
      have U4 : Hid (Up W5 w4) := by show Up _ _; rw [hz4]; exact Up.trans HU.out (Up.trans U7.out (hz.out z))
      clear hz4 HRR' hz C1 C3 X7 U7
      go_wp2_with fail
      go_ret
      exact ⟨rfl, Up.trans U5.out U4.out⟩
    have HG : Hid (lotsB (-1) o.lots = lotsB x.1 (o.lots.drop (j + 1 + 1))) := by show _ = _; rw [HBE.out, HST.out, HBD.out]; simp
    clear HV3 HST HBD
    refine wp_region_up_k (by kernel_rfl) (by kernel_rfl) ?_
    intro R HRR
    have HRR' := Lib.hid HRR
    clear HRR
    repeat (first | ((with_reducible show wpQuiet _ _ _ _ (Oper.mk (some 51) _ _ _ _ _ :: _) _); with_reducible refine wpQuiet_step (fun K hK => ?_); go_simp; apply Exists.intro; refine ⟨fun _ => ?_, hK _ ?_⟩; (go_at_call 52; with_reducible exact Calls.quiet_up (C1.out _)); clear hK K) | ((with_reducible show wpQuiet _ _ _ _ (Oper.mk (some 72) _ _ _ _ _ :: _) _); with_reducible refine wpQuiet_step (fun K hK => ?_); go_simp; apply Exists.intro; refine ⟨fun _ => ?_, hK _ ?_⟩; (go_at_call 52; with_reducible exact Calls.quiet_up (C3.out _)); clear hK K) | go_big_quiet_skip | (with_reducible refine wpQuiet_step (fun K hK => ?_); go_simp; with_reducible refine hK _ ?_; clear hK K))
    refine wpQuiet_nil ?_
    refine HRR'.out _ ?_
    rintro w4 ⟨z, hz4⟩
    have U4 : Hid (Up W5 w4) := by show Up _ _; rw [hz4]; exact Up.trans HU.out (Up.trans U7.out (hz.out z))
    clear hz4 HRR' hz C1 C3 X7 U7
    go_wp2_with fail
    exact ⟨⟨j + 1 + 1, x.1, by omega, by go_num, HW1.out, fun h => by omega, fun k hk h => ⟨HNX.out k hk h, HW0.out⟩, HG, U4⟩, by simp [intOf]; omega⟩

end Go.Proofs.YtmifpokafaiebaaDoor

namespace Go.Proofs.YtmifpokafaiebaaDoor
open Go Go.RowKit
set_option linter.unusedVariables false
set_option maxRecDepth 100000

theorem rc_Int (n : Int) (w : World) : Calls Tryd.prog 32 #[.int .i64 n] w fun e w' => e = .returned (.agg #[.int .i64 1, .int .i64 n, .string ⟨#[]⟩, .slice none 0 0]) ∧ Up w w' := by
  go_enter Tryd.func32, Tryd.ntmps32
  go_wp2
  refine bodyPost_nm ?_
  intro W hW
  have hx : W.heap[w.heap.size]? = some (.cells #[.int .i64 1, .int .i64 n, .string ⟨#[]⟩, .slice none 0 0] 64 (0, 0)) := by rw [hW, heap_new rfl]
  have U : Up w W := by rw [hW]; exact (Up.refl w).alloc _
  have q0 : W.cell? ⟨w.heap.size, 0, none⟩ = some (.int .i64 1) := by rw [cell_of_row W w.heap.size 0 _ _ _ hx]; rfl
  have q1 : W.cell? ⟨w.heap.size, 1, none⟩ = some (.int .i64 n) := by rw [cell_of_row W w.heap.size 1 _ _ _ hx]; rfl
  have q2 : W.cell? ⟨w.heap.size, 2, none⟩ = some (.string ⟨#[]⟩) := by rw [cell_of_row W w.heap.size 2 _ _ _ hx]; rfl
  have q3 : W.cell? ⟨w.heap.size, 3, none⟩ = some (.slice none 0 0) := by rw [cell_of_row W w.heap.size 3 _ _ _ hx]; rfl
  clear hW
  refine bodyPost_ret (v := .agg #[.int .i64 1, .int .i64 n, .string ⟨#[]⟩, .slice none 0 0]) (by simp [results, Tryd.results32, go_sem, q0, q1, q2, q3]) rfl ⟨rfl, U⟩
theorem rc_Text (s : ByteArray) (w : World) : Calls Tryd.prog 34 #[.string s] w fun e w' => e = .returned (.agg #[.int .i64 2, .int .i64 0, .string s, .slice none 0 0]) ∧ Up w w' := by
  go_enter Tryd.func34, Tryd.ntmps34
  go_wp2
  refine bodyPost_nm ?_
  intro W hW
  have hx : W.heap[w.heap.size]? = some (.cells #[.int .i64 2, .int .i64 0, .string s, .slice none 0 0] 64 (0, 0)) := by rw [hW, heap_new rfl]
  have U : Up w W := by rw [hW]; exact (Up.refl w).alloc _
  have q0 : W.cell? ⟨w.heap.size, 0, none⟩ = some (.int .i64 2) := by rw [cell_of_row W w.heap.size 0 _ _ _ hx]; rfl
  have q1 : W.cell? ⟨w.heap.size, 1, none⟩ = some (.int .i64 0) := by rw [cell_of_row W w.heap.size 1 _ _ _ hx]; rfl
  have q2 : W.cell? ⟨w.heap.size, 2, none⟩ = some (.string s) := by rw [cell_of_row W w.heap.size 2 _ _ _ hx]; rfl
  have q3 : W.cell? ⟨w.heap.size, 3, none⟩ = some (.slice none 0 0) := by rw [cell_of_row W w.heap.size 3 _ _ _ hx]; rfl
  clear hW
  refine bodyPost_ret (v := .agg #[.int .i64 2, .int .i64 0, .string s, .slice none 0 0]) (by simp [results, Tryd.results34, go_sem, q0, q1, q2, q3]) rfl ⟨rfl, U⟩
theorem rc_List (p : Option Addr) (n c : Nat) (w : World) : Calls Tryd.prog 31 #[.slice p n c] w fun e w' => e = .returned (.agg #[.int .i64 3, .int .i64 0, .string ⟨#[]⟩, .slice p n c]) ∧ Up w w' := by
  go_enter Tryd.func31, Tryd.ntmps31
  go_wp2
  refine bodyPost_nm ?_
  intro W hW
  have hx : W.heap[w.heap.size]? = some (.cells #[.int .i64 3, .int .i64 0, .string ⟨#[]⟩, .slice p n c] 64 (0, 0)) := by rw [hW, heap_new rfl]
  have U : Up w W := by rw [hW]; exact (Up.refl w).alloc _
  have q0 : W.cell? ⟨w.heap.size, 0, none⟩ = some (.int .i64 3) := by rw [cell_of_row W w.heap.size 0 _ _ _ hx]; rfl
  have q1 : W.cell? ⟨w.heap.size, 1, none⟩ = some (.int .i64 0) := by rw [cell_of_row W w.heap.size 1 _ _ _ hx]; rfl
  have q2 : W.cell? ⟨w.heap.size, 2, none⟩ = some (.string ⟨#[]⟩) := by rw [cell_of_row W w.heap.size 2 _ _ _ hx]; rfl
  have q3 : W.cell? ⟨w.heap.size, 3, none⟩ = some (.slice p n c) := by rw [cell_of_row W w.heap.size 3 _ _ _ hx]; rfl
  clear hW
  refine bodyPost_ret (v := .agg #[.int .i64 3, .int .i64 0, .string ⟨#[]⟩, .slice p n c]) (by simp [results, Tryd.results31, go_sem, q0, q1, q2, q3]) rfl ⟨rfl, U⟩


set_option maxHeartbeats 4000000 in
theorem rints_calls (p : Option Addr) (k c : Nat) (ns : List Int) (w : World) (hk : k = ns.length) (hk2 : k ≤ 100) (hc : k ≤ c) (hcm : c ≤ maxLen) (hr : RowAt w p 1 iEnc ns) :
    Calls Tryd.prog 33 #[.slice p k c] w fun e w' => ∃ sl, e = .returned (.agg #[.int .i64 3, .int .i64 0, .string ⟨#[]⟩, sl]) ∧ OwnV w' w.heap.size sl ((ints ns).map elIt) ∧ Up w w' := by
  have HK := Lib.hid hk
  have HR := Lib.hid hr
  clear hk hr
  go_enter Tryd.func33, Tryd.ntmps33
  go_wp2_with fail
  refine wp_named ?_
  intro W1 hW1
  obtain ⟨b0, hb0⟩ : ∃ bt, bt = w.heap.size := ⟨_, rfl⟩
  obtain ⟨bt, hbt⟩ : ∃ bt, bt = b0 + 1 := ⟨_, rfl⟩
  rw [← hb0, ← hbt]
  have h1 : Hid (∃ v, W1.heap[bt]? = some (.cells #[.int .i64 3, .int .i64 0, .string ⟨#[]⟩, v] 64 (0, 0)) ∧ OwnV W1 (bt + 1) v ((ints (ns.take 0)).map elIt)) := by
    refine ⟨.slice none 0 0, ?_, OwnV.nil _ _⟩
    rw [hW1]; exact heap_new (by simp [hbt, hb0])
  have g0 : W1.heap[b0]? = some (.cells #[.int .i64 0, .int .i64 0, .string ⟨#[]⟩, .slice none 0 0] 64 (0, 0)) := by rw [hW1]; exact (heap_old (by simp [hb0])).trans (heap_new hb0)
  have u1 : Up w W1 := by rw [hW1]; exact ((Up.refl w).alloc _).alloc _
  have z1 : bt + 1 ≤ W1.heap.size := by have := (lt_of_block h1.out.choose_spec.1); omega
  have U1 := Lib.hid u1
  have G0 := Lib.hid g0
  have HB0 : Hid (w.heap.size = b0) := hb0.symm
  have HBT := Lib.hid hbt
  clear hW1 u1 hbt hb0 g0
  go_loopw [4] (fun v4 wq => ∃ i : Nat, i ≤ k ∧ v4 = .int .i64 i ∧ Hid (∃ v, wq.heap[bt]? = some (.cells #[.int .i64 3, .int .i64 0, .string ⟨#[]⟩, v] 64 (0, 0)) ∧ OwnV wq (bt + 1) v ((ints (ns.take i)).map elIt)) ∧ Hid (Below bt W1 wq) ∧ bt + 1 ≤ wq.heap.size)
    (fun v4 _ => k - (intOf v4).toNat)
  case atStart => exact ⟨0, by omega, rfl, h1, Below.refl _ _, z1⟩
  case round =>
    obtain ⟨i, hi, rfl, hV, hU, hz⟩ := hrel
    obtain ⟨v, hv, hown⟩ := hV.out
    have UW : Hid (Up w wr) := Below.trans U1.out (hU.out.mono (by have := HBT.out; have := HB0.out; omega))
    by_cases hlt : i < k
    · have hi2 : i < ns.length := by rw [← HK.out]; exact hlt
      obtain ⟨b, o, rfl, hpr⟩ := HR.out (by rintro rfl; simp at hi2)
      have hg := rangeAt_up (hpr i hi2) UW.out
      have hstep : (ints (ns.take (i + 1))).map elIt = (ints (ns.take i)).map elIt ++ [elIt (.inl ns[i])] := by
        unfold ints; rw [List.take_succ_eq_append_getElem hi2, List.map_append, List.map_append]; rfl
      have hlen : ((ints (ns.take i)).map elIt).length ≤ 65535 := by simp [ints]; omega
      have hcv : wr.cell? ⟨b, o + i, none⟩ = some (.int .i64 ns[i]) := by simpa using hg 0 _ rfl
      have HBL : Hid (b < w.heap.size) := block_lt_of_cell (hpr i hi2 0 _ rfl)
      have HV := Lib.hid hv
      have HO := Lib.hid hown
      have HSTEP := Lib.hid hstep
      have HLEN := Lib.hid hlen
      obtain ⟨n, hn⟩ : ∃ n, n = ns[i] := ⟨_, rfl⟩
      rw [← hn] at HSTEP hcv
      have HCV := Lib.hid hcv
      clear hV hv hown hstep hlen hn hg hpr hcv
      go_wp2_with fail
      refine wp_region_mixE_at 10 [0, 1, 2, 3, 4, 5] [6, 7, 8, 9, 10] (by kernel_rfl) (by kernel_rfl) (fun _ _ d _ _ h => by cases d <;> exact h) ?_
      intro W U hW
      obtain ⟨C, hC⟩ : ∃ C : World → Prop, C = fun W' => Up wr W' ∨ (W'.heap[bt]? = some (.cells #[.int .i64 3, .int .i64 0, .string ⟨#[]⟩, v] 64 (0, 0)) ∧ W'.cell? ⟨b, o + i, none⟩ = some (.int .i64 n)) := ⟨_, rfl⟩
      have CO : Hid (∀ y : InC C, y.w.heap[bt]? = some (.cells #[.int .i64 3, .int .i64 0, .string ⟨#[]⟩, v] 64 (0, 0)) ∧ y.w.cell? ⟨b, o + i, none⟩ = some (.int .i64 n)) := fun y => by
        rcases Eq.mp (congrFun hC y.w) y.h with h | h
        · exact ⟨(h.block _ (lt_of_block HV.out)).trans HV.out, cell_up HCV.out h⟩
        · exact h
      have CU : Hid (∀ W', Up wr W' → C W') := fun W' h => by rw [hC]; exact .inl h
      have CI : Hid (∀ W', W'.heap[bt]? = some (.cells #[.int .i64 3, .int .i64 0, .string ⟨#[]⟩, v] 64 (0, 0)) → W'.cell? ⟨b, o + i, none⟩ = some (.int .i64 n) → C W') := fun W' h1 h2 => by rw [hC]; exact .inr ⟨h1, h2⟩
      have UW2 : Hid (Up wr W) := U
      refine ⟨C, CU.out W U, ?_⟩
      haveI : Nonempty (InC C) := ⟨⟨W, CU.out W U⟩⟩
      have k1 : ∀ y : InC C, y.w.cell? ⟨bt, 3, none⟩ = some v := fun y => by rw [cell_of_row y.w bt 3 _ _ _ (CO.out y).1]; rfl
      have k2 : ∀ y : InC C, y.w.cell? ⟨b, o + i, none⟩ = some (.int .i64 n) := fun y => (CO.out y).2
      clear hC hW U
      simp only [pick, List.getElem?_cons_zero, List.getElem?_cons_succ]
      repeat (refine wpStillC_step (fun K hK => ?_); go_simp; refine hK _ ?_; clear hK K)
      refine wpStillC_nil ?_
      clear k1 k2
      refine wpChainE_step (fun K hK => ?_)
      go_simp
      refine (rc_Int n W).mono ?_
      rintro e w1 ⟨rfl, u1⟩
      have V1 : Hid (Up wr w1) := Up.trans UW2.out u1
      refine hK _ _ (inC (CU.out w1 V1.out)) ?_
      clear hK K u1
      refine wpChainE_step (fun K hK => ?_)
      go_simp
      have ha : Up wr (w1.alloc (Obj.cells #[.int .i64 1, .int .i64 n, .string ⟨#[]⟩, .slice none 0 0] 64 (0, 0))) := V1.out.alloc _
      have hr2 : RowAt (w1.alloc (Obj.cells #[.int .i64 1, .int .i64 n, .string ⟨#[]⟩, .slice none 0 0] 64 (0, 0))) (some ⟨w1.heap.size, 0, none⟩) 4 elEnc [elIt (.inl n)] := rowAt_block (D := #[.int .i64 1, .int .i64 n, .string ⟨#[]⟩, .slice none 0 0]) (fun x _ => elEnc_len x) rfl (heap_new rfl)
      obtain ⟨w2, hw2⟩ : ∃ w2, w2 = w1.alloc (Obj.cells #[.int .i64 1, .int .i64 n, .string ⟨#[]⟩, .slice none 0 0] 64 (0, 0)) := ⟨_, rfl⟩
      rw [← hw2] at ha hr2 ⊢
      have V2 := Lib.hid ha
      have R2 := Lib.hid hr2
      refine hK _ _ (inC (CU.out w2 V2.out)) ?_
      clear hK K ha hr2 hw2
      have HOW : Hid (OwnR w2 (bt + 1) 64 4 elEnc v ((ints (ns.take i)).map elIt)) := ownV_iff.1 (HO.out.up V2.out)
      refine wpChainE_want rfl (fun K hK => ?_)
      refine wp_appR (.tmp 13) (.tmp 19) eltVal (by omega) rfl rfl (bt + 1) _ ((ints (ns.take i)).map elIt) _ 1 1 [elIt (.inl n)] rfl rfl rfl (fun x _ => elEnc_len x) (fun x _ => elEnc_one x) HOW.out R2.out (by have := HLEN.out; simp at this ⊢; omega) (Nat.le_trans hz V2.out.size) ?_
      intro p' m' d' w7 o7 b7 g7
      have nb : ∀ g, v.ownBlock = some g → g ≠ bt := fun g hg => by have := HO.out.block g hg; omega
      have x7 : w7.heap[bt]? = some (.cells #[.int .i64 3, .int .i64 0, .string ⟨#[]⟩, v] 64 (0, 0)) := (b7.block bt (by omega)).trans ((V2.out.block _ (lt_of_block HV.out)).trans HV.out)
      have n7 : ∀ g, (Value.slice p' m' d').ownBlock = some g → g ≠ bt := fun g hg => by have := ownV_iff.2 o7 |>.block g hg; omega
      have X7 := Lib.hid x7
      have N7 := Lib.hid n7
      have O7 := Lib.hid o7
      have B7 : Hid (Below (bt + 1) wr w7) := Below.trans (V2.out.mono hz) b7
      have cv7 : w7.cell? ⟨b, o + i, none⟩ = some (.int .i64 n) := (B7.out.cell (p := ⟨b, o + i, none⟩) (by show b < bt + 1; have := HBL.out; have := HB0.out; have := HBT.out; omega)).trans HCV.out
      have CV7 := Lib.hid cv7
      refine hK _ _ (inC (CI.out w7 x7 cv7)) ?_
      clear hK K o7 b7 g7 nb x7 n7 cv7 HOW R2 V1 V2
      refine wpChainE_step (fun K hK => ?_)
      go_simp
      refine hK _ _ (inC (CI.out w7 X7.out CV7.out)) ?_
      clear hK K
      have f1 : w7.cell? ⟨bt, 3, none⟩ = some v := by rw [cell_of_row w7 bt 3 _ _ _ X7.out]; rfl
      have f2 : w7.frozen? ⟨bt, 3, none⟩ = false := free_row X7.out 3
      refine wpChainE_last rfl (fun K hK => ?_)
      go_simp
      refine hK _ _ ?_
      clear hK K
      obtain ⟨W9, hW9⟩ : ∃ W9, W9 = w7.setCell ⟨bt, 3, none⟩ (.slice p' m' d') := ⟨_, rfl⟩
      rw [← hW9]
      have x9 : W9.heap[bt]? = some (.cells #[.int .i64 3, .int .i64 0, .string ⟨#[]⟩, .slice p' m' d'] 64 (0, 0)) := by rw [hW9, heap_setCell_same w7 bt 3 _ _ _ X7.out]; rfl
      have o9 : OwnV W9 (bt + 1) (.slice p' m' d') ((ints (ns.take (i + 1))).map elIt) := by
        rw [HSTEP.out]
        exact ownV_iff.2 (O7.out.kept fun g hg => by rw [hW9]; exact heap_setCell_other _ _ _ _ (N7.out g hg))
      have b9 : Below bt W1 W9 := by
        have a := hU.out.trans (B7.out.mono (Nat.le_succ _))
        rw [hW9]
        exact ⟨a.os, a.tape, a.output, by simpa [World.setCell] using a.size, fun j hj => (heap_setCell_other _ _ _ _ (by show j ≠ bt; omega)).trans (a.block j hj)⟩
      have z9 : bt + 1 ≤ W9.heap.size := by have := lt_of_block x9; omega
      have X9 : Hid (∃ v, W9.heap[bt]? = some (.cells #[.int .i64 3, .int .i64 0, .string ⟨#[]⟩, v] 64 (0, 0)) ∧ OwnV W9 (bt + 1) v ((ints (ns.take (i + 1))).map elIt)) := ⟨_, x9, o9⟩
      have B9 := Lib.hid b9
      clear hW9 x9 o9 b9 f1 f2
      go_wp2_with fail
      exact ⟨⟨i + 1, by omega, by go_num, X9, B9, z9⟩, by simp [intOf]; omega⟩
    · have him : i = k := by omega
      subst him
      have ho : OwnV wr (bt + 1) v ((ints ns).map elIt) := by
        have := hown
        rw [HK.out, List.take_length] at this
        exact this
      obtain ⟨pv, cv', rfl, -, -⟩ := ho.form
      obtain ⟨nv, hnv⟩ : ∃ n, n = ((ints ns).map elIt).length := ⟨_, rfl⟩
      rw [← hnv] at ho hv
      have HO := Lib.hid ho
      have HV := Lib.hid hv
      have G0R := Lib.hid ((hU.out.block b0 (by have := HBT.out; omega)).trans G0.out)
      clear hown hV hv ho hnv h1
      go_wp2_with (first | (refine wpList_load_arr rfl 64 (.tmp 3) rfl bt 0 rfl #[.int .i64 3, .int .i64 0, .string ⟨#[]⟩, (.slice pv nv cv')] _ (rangeAt_row HV.out) rfl rfl (by rfl) ?_) | (refine wpList_store_row rfl 64 (.tmp 2) (.tmp 22) rfl b0 #[.int .i64 3, .int .i64 0, .string ⟨#[]⟩, .slice pv nv cv'] rfl rfl 64 _ G0R.out (by rfl) (by rfl) (by simp [Value.oneCell']) ?_))
      have hst := setRow_heap wr b0 _ #[.int .i64 3, .int .i64 0, .string ⟨#[]⟩, .slice pv nv cv'] _ _ G0R.out
      refine bodyPost_ret (results_cell_row rfl _ _ b0 _ #[.int .i64 3, .int .i64 0, .string ⟨#[]⟩, .slice pv nv cv'] (0, 0) _ rfl hst rfl rfl (by rfl)) rfl ⟨_, rfl, ?_, ?_⟩
      · have := HO.out.kept (w' := wr.setRow b0 #[.int .i64 3, .int .i64 0, .string ⟨#[]⟩, .slice pv nv cv']) fun g hg => setRow_other _ _ _ _ (by have := HO.out.block g hg; have := HBT.out; omega)
        exact ownV_less this (by have := HBT.out; have := HB0.out; omega)
      · exact below_setRow UW.out (Nat.le_of_eq HB0.out) _

end Go.Proofs.YtmifpokafaiebaaDoor

namespace Go.Proofs.YtmifpokafaiebaaDoor
open Go Go.RowKit
set_option linter.unusedVariables false
set_option maxRecDepth 100000

set_option maxHeartbeats 2000000 in
theorem rcheck44_calls (a : OfA) (w : World) (h : LtsAt w a) : Calls Tryd.prog 17 #[.agg (ofCells a).toArray] w fun e w' => e = .returned (.int .i64 (chkO a.o)) ∧ Up w w' := by
  have VC : Hid (a.o.lots.length ≤ 8 → ∀ W, Up w W → Calls Tryd.prog 36 #[.agg (ofCells a).toArray] W fun e w' => e = .returned (.bool (!badHead a.o && lotsB (-1) a.o.lots)) ∧ Up W w') := fun h8 W hu => rvalid_calls a W (h.up hu) h8
  obtain ⟨V, hV⟩ : ∃ V, V = (!badHead a.o && lotsB (-1) a.o.lots) := ⟨_, rfl⟩
  have hE : chkO a.o = if 8 < a.o.lots.length then 2 else if V then 0 else 440 := by
    unfold chkO
    rw [hV]
    by_cases h1 : 8 < a.o.lots.length
    · rw [if_pos h1, if_pos h1]
    · rw [if_neg h1, if_neg h1]
      cases badHead a.o <;> cases lotsB (-1) a.o.lots <;> rfl
  rw [hE]
  rw [← hV] at VC
  obtain ⟨o, p, c⟩ := a
  unfold ofCells at VC ⊢
  simp only at VC ⊢
  obtain ⟨m, hm⟩ : ∃ m, m = o.lots.length := ⟨_, rfl⟩
  rw [← hm] at VC ⊢
  clear hm hV h hE
  by_cases h1 : 8 < m
  case pos =>
    have d : decide ((8 : Int) < (m : Int)) = true := by simp; omega
    rw [if_pos h1]
    clear h1 VC
    go_enter Tryd.func17, Tryd.ntmps17
    go_wp2_with fail
    go_ret
    exact ⟨rfl, (Up.refl w).alloc _⟩
  have d : decide ((8 : Int) < (m : Int)) = false := by simp; omega
  rw [if_neg h1]
  have VD := Lib.hid (VC.out (by omega))
  clear VC h1
  go_enter Tryd.func17, Tryd.ntmps17
  go_wp2_with ((with_reducible show wpList _ _ _ (Oper.mk _ (Op.load _ (Operand.tmp 1)) _ _ _ _ :: _) _ _); refine wpList_named ?_; intro W1 hW1; (have u1 : Up w W1 := by (rw [hW1]; exact (Up.refl w).alloc _)); (have xa : W1.heap[w.heap.size]? = some (.cells #[.int .i64 o.no, .int .i64 o.farm, .int .i64 o.price, .int .i64 o.lo, .int .i64 o.hi, .slice p m c] 26 (0, 0)) := by (rw [hW1]; exact heap_new rfl)); have U1 := Lib.hid u1; have XA := Lib.hid xa; clear u1 xa hW1; refine wpList_load_arr rfl 26 (.tmp 1) rfl w.heap.size 0 rfl #[.int .i64 o.no, .int .i64 o.farm, .int .i64 o.price, .int .i64 o.lo, .int .i64 o.hi, .slice p m c] _ (rangeAt_row XA.out) rfl rfl (by rfl) ?_)
  refine (VD.out W1 U1.out).mono ?_
  rintro e W2 ⟨rfl, u2⟩
  have U2 : Hid (Up w W2) := Up.trans U1.out u2
  clear u2 VD
  cases V
  · go_wp2_with fail
    go_ret
    exact ⟨rfl, U2.out⟩
  · go_wp2_with fail
    go_ret
    exact ⟨rfl, U2.out⟩

/-- a list in a row of one's own, for the reference -/
theorem rel_list {w : World} {base : Nat} {p : Option Addr} {n c : Nat} {xs : List Enc.It} (ho : OwnV w base (.slice p n c) (xs.map elIt)) (hok : ∀ x ∈ xs, x.ok) (hlen : xs.length ≤ 65536) (htot : (xs.map Enc.encIt).flatten.length ≤ 268435456) : EncAs w (lstEl p n c xs) ∧ FormR w (lstEl p n c xs) ∧ (lstEl p n c xs).d ≤ 15 := by
  obtain ⟨p', c', hv, hels, hlow⟩ := ho.form
  injection hv with h1 h2 h3
  subst h1 h2 h3
  have e : encIts xs = 3 :: (Enc.num (xs.map elIt).length ++ encEls (xs.map elIt)) := by rw [encIts, Enc.encL, encEls, els_map, List.length_map, List.length_map]
  refine ⟨fun W hu => ?_, fun W hu => ⟨?_, ?_⟩, by show 1 ≤ 15; omega⟩
  · have := rc_encL p c (xs.map elIt) w W (fun el hel => by obtain ⟨x, hx, rfl⟩ := List.mem_map.1 hel; exact elIt_encAs w x (hok x hx)) hels (by simpa using hlen) (by rw [encEls, els_map]; exact htot) hu
    rw [← e] at this
    exact this
  · exact rc_formedL p c (xs.map elIt) w W (fun el hel => by obtain ⟨x, hx, rfl⟩ := List.mem_map.1 hel; exact elIt_formR w x) hels (by simpa using hlen) hu
  · have := rc_depthL p c (xs.map elIt) w W (fun el hel => by obtain ⟨x, hx, rfl⟩ := List.mem_map.1 hel; exact ⟨elIt_formR w x, by cases x <;> exact Nat.zero_le _⟩) hels (by simpa using hlen) hu
    rw [depth0] at this
    exact this
theorem ownV_block {w : World} {b : Nat} {D : Array Value} {els : List El} (h : w.heap[b]? = some (.cells D 64 (0, 0))) (hD : D.toList = rowV els) (hs : D.size = els.length * 4) (hm : els.length ≤ maxLen) : OwnV w b (.slice (some ⟨b, 0, none⟩) els.length els.length) els := by
  refine ⟨by rw [← hD, Array.length_toList, hs], .inr ⟨b, els.length, D, rfl, Nat.le_refl _, h, Nat.le_refl _, hm, hs, ?_⟩⟩
  rw [← hD, List.take_of_length_le (by rw [Array.length_toList, hs]; exact Nat.le_refl _)]

set_option maxHeartbeats 2000000 in
theorem rmessage_bad (a : OfA) (salt : List UInt8) (sp : Option Addr) (sc : Nat) (w : World) (h : LtsAt w a) (hb : msgE a.o salt ≠ 0) : Calls Tryd.prog 13 #[.agg (ofCells a).toArray, .slice sp salt.length sc] w (RetD w [] (msgE a.o salt)) := by
  have CK := Lib.hid fun W (hu : Up w W) => rcheck44_calls a W (h.up hu)
  have hAs : Hid ((ofCells a).toArray.size = 6) := rfl
  unfold msgE at hb ⊢
  obtain ⟨ee, hee⟩ : ∃ ee, ee = chkO a.o := ⟨_, rfl⟩
  rw [← hee] at hb CK ⊢
  obtain ⟨A, hA⟩ : ∃ A, A = (ofCells a).toArray := ⟨_, rfl⟩
  rw [← hA] at CK hAs ⊢
  obtain ⟨n, hn⟩ : ∃ n, n = salt.length := ⟨_, rfl⟩
  rw [← hn] at hb ⊢
  clear hA hee hn h
  by_cases h0 : ee = 0
  case neg =>
    rw [if_neg h0]
    have d0 : (ee != 0) = true := by rw [bne_iff_ne]; exact h0
    clear hb h0
    go_enter Tryd.func13, Tryd.ntmps13
    go_wp2_with ((with_reducible show wpList _ _ _ (Oper.mk _ (Op.load _ (Operand.tmp 2)) _ _ _ _ :: _) _ _); refine wpList_named ?_; intro W1 hW1; (have u1 : Up w W1 := by (rw [hW1]; exact (Up.refl w).alloc _)); (have xa : W1.heap[w.heap.size]? = some (.cells A 26 (0, 0)) := by (rw [hW1]; exact heap_new rfl)); have U1 := Lib.hid u1; have XA := Lib.hid xa; clear u1 xa hW1; refine wpList_load_arr rfl 26 (.tmp 2) rfl w.heap.size 0 rfl A _ (rangeAt_row XA.out) rfl rfl (by rw [hAs.out]; rfl) ?_)
    refine (CK.out W1 U1.out).mono ?_
    rintro e W2 ⟨rfl, u2⟩
    have U2 : Hid (Up w W2) := Up.trans U1.out u2
    clear u2
    go_wp2_with fail
    go_ret2
    exact ⟨none, 0, rfl, fun h => absurd rfl h, Nat.le_refl _, by unfold maxLen; omega, U2.out⟩
  subst h0
  have h16 : n ≠ 16 := fun e => hb (by simp [e])
  rw [if_pos rfl, if_neg h16]
  have d1 : (((n : Nat) : Int) != 16) = true := by rw [bne_iff_ne]; omega
  clear hb h16
  go_enter Tryd.func13, Tryd.ntmps13
  go_wp2_with ((with_reducible show wpList _ _ _ (Oper.mk _ (Op.load _ (Operand.tmp 2)) _ _ _ _ :: _) _ _); refine wpList_named ?_; intro W1 hW1; (have u1 : Up w W1 := by (rw [hW1]; exact (Up.refl w).alloc _)); (have xa : W1.heap[w.heap.size]? = some (.cells A 26 (0, 0)) := by (rw [hW1]; exact heap_new rfl)); have U1 := Lib.hid u1; have XA := Lib.hid xa; clear u1 xa hW1; refine wpList_load_arr rfl 26 (.tmp 2) rfl w.heap.size 0 rfl A _ (rangeAt_row XA.out) rfl rfl (by rw [hAs.out]; rfl) ?_)
  refine (CK.out W1 U1.out).mono ?_
  rintro e W2 ⟨rfl, u2⟩
  have U2 : Hid (Up w W2) := Up.trans U1.out u2
  clear u2
  go_wp2_with fail
  go_ret2
  exact ⟨none, 0, rfl, fun h => absurd rfl h, Nat.le_refl _, by unfold maxLen; omega, U2.out⟩

end Go.Proofs.YtmifpokafaiebaaDoor

namespace Go.Proofs.YtmifpokafaiebaaDoor
open Go Go.RowKit
set_option linter.unusedVariables false
set_option maxRecDepth 100000

theorem Up.below' {A B : World} {base : Nat} (h : Up A B) (hb : base ≤ A.heap.size) : Below base A B := Below.mono h hb

set_option maxHeartbeats 8000000 in
theorem rmessage_good (a : OfA) (salt : List UInt8) (sp : Option Addr) (sc : Nat) (w : World) (h : LtsAt w a) (hsb : SB w sp salt) (hb : msgE a.o salt = 0) : Calls Tryd.prog 13 #[.agg (ofCells a).toArray, .slice sp salt.length sc] w (RetD w (encMsg a.o salt) 0) := by
  have CK := Lib.hid fun W (hu : Up w W) => rcheck44_calls a W (h.up hu)
  have hc0 : chkO a.o = 0 := by
    unfold msgE at hb
    by_cases hc : chkO a.o = 0
    · exact hc
    · rw [if_neg hc] at hb; exact absurd hb hc
  have h16 : salt.length = 16 := by
    unfold msgE at hb
    rw [if_pos hc0] at hb
    by_cases hl : salt.length = 16
    · exact hl
    · rw [if_neg hl] at hb; omega
  rw [hc0] at CK
  have ok := chkO_ok hc0
  have CV := Lib.hid fun W (hu : Up w W) => run_text_of W sp sc salt (hsb.up hu)
  rw [h16] at CV ⊢
  have hes : (bsOf salt).size = 16 := by rw [bsOf_size, h16]
  have d16 : (((16 : Nat) : Int) != 16) = false := by simp
  obtain ⟨o, p, c⟩ := a
  obtain ⟨hr, hc, hcm⟩ := h
  unfold ofCells at CK ⊢
  simp only at hr hc hcm hc0 ok CK ⊢
  obtain ⟨m, hm⟩ : ∃ m, m = o.lots.length := ⟨_, rfl⟩
  have hm8 : m ≤ 8 := by rw [hm]; exact ok.len
  rw [← hm] at CK hc ⊢
  have HM := Lib.hid hm
  have HRW := Lib.hid hr
  have OK := Lib.hid ok
  have HS16 := Lib.hid h16
  have HES := Lib.hid hes
  clear hm hr hsb hb hc0 h16 hes ok
  go_enter Tryd.func13, Tryd.ntmps13
  go_wp2_with ((with_reducible show wpList _ _ _ (Oper.mk _ (Op.load _ (Operand.tmp 2)) _ _ _ _ :: _) _ _); refine wpList_named ?_; intro W1 hW1; (have u1 : Up w W1 := by (rw [hW1]; exact (Up.refl w).alloc _)); (have xa : W1.heap[w.heap.size]? = some (.cells #[.int .i64 o.no, .int .i64 o.farm, .int .i64 o.price, .int .i64 o.lo, .int .i64 o.hi, .slice p m c] 26 (0, 0)) := by (rw [hW1]; exact heap_new rfl)); have U1 := Lib.hid u1; have XA := Lib.hid xa; clear u1 xa hW1; refine wpList_load_arr rfl 26 (.tmp 2) rfl w.heap.size 0 rfl #[.int .i64 o.no, .int .i64 o.farm, .int .i64 o.price, .int .i64 o.lo, .int .i64 o.hi, .slice p m c] _ (rangeAt_row XA.out) rfl rfl (by rfl) ?_)
  refine (CK.out W1 U1.out).mono ?_
  rintro e W2 ⟨rfl, u2⟩
  have U2 : Hid (Up w W2) := Up.trans U1.out u2
  have XA2 := Lib.hid ((u2.block _ (lt_of_block XA.out)).trans XA.out)
  obtain ⟨bo, hbo⟩ : ∃ b, b = w.heap.size := ⟨_, rfl⟩
  rw [← hbo] at XA2 ⊢
  have HBO := Lib.hid hbo
  clear u2 XA CK hbo
  go_wp2_with fail
  refine wp_named ?_
  intro W3 hW3
  obtain ⟨bq, hbq⟩ : ∃ b, b = W2.heap.size := ⟨_, rfl⟩
  rw [← hbq]
  have u3 : Up W2 W3 := by rw [hW3]; exact (Up.refl W2).alloc _
  have o3 : OwnR W3 bq 3 1 iEnc (.slice (some ⟨bq, 0, none⟩) 0 0) [] := by rw [hW3, hbq]; exact OwnR.empty W2
  have U3 : Hid (Up w W3) := Up.trans U2.out u3
  have XA3 := Lib.hid ((u3.block _ (lt_of_block XA2.out)).trans XA2.out)
  have O3 := Lib.hid o3
  have HBO2 : Hid (bo < bq) := by show _ < _; rw [hbq]; exact lt_of_block XA2.out
  have HBQ : Hid (w.heap.size ≤ bq) := by show _ ≤ _; rw [hbq]; exact U2.out.size
  clear hW3 u3 o3 hbq XA2 U2
  go_loopw [7, 8] (fun v7 v8 wq => ∃ i : Nat, i ≤ m ∧ v8 = .int .i64 i ∧ Hid (OwnR wq bq 3 1 iEnc v7 (lotNs (o.lots.take i))) ∧ Hid (Below bq W3 wq)) (fun _ v8 _ => m - (intOf v8).toNat)
  case atStart => exact ⟨0, by omega, rfl, O3, Below.refl _ _⟩
  case round =>
    obtain ⟨i, hi, rfl, HO, HU⟩ := hrel
    have UW : Hid (Up w wr) := Below.trans U3.out (HU.out.mono HBQ.out)
    have XR : Hid (wr.heap[bo]? = some (.cells #[.int .i64 o.no, .int .i64 o.farm, .int .i64 o.price, .int .i64 o.lo, .int .i64 o.hi, .slice p m c] 26 (0, 0))) := (HU.out.block _ HBO2.out).trans XA3.out
    have q5 : wr.cell? ⟨bo, 5, none⟩ = some (.slice p m c) := by rw [cell_of_row wr bo 5 _ _ _ XR.out]; rfl
    have HBS : Hid (bq ≤ wr.heap.size) := Nat.le_trans (Nat.le_of_lt (O3.out.lt bq rfl)) HU.out.size
    by_cases hlt : i < m
    case pos =>
      have hil : i < o.lots.length := by rw [← HM.out]; exact hlt
      obtain ⟨b, off, rfl, hpr⟩ := HRW.out (by rintro hh; rw [hh] at hil; simp at hil)
      have g := hpr i hil
      have hst : lotNs (o.lots.take (i + 1)) = lotNs (o.lots.take i) ++ [(o.lots[i]).1, (o.lots[i]).2] := by rw [List.take_succ_eq_append_getElem hil, lotNs_snoc]
      have hll : (lotNs (o.lots.take i)).length ≤ 100 := by rw [lotNs_length, List.length_take]; omega
      obtain ⟨x, hx⟩ : ∃ x, x = o.lots[i] := ⟨_, rfl⟩
      rw [← hx] at g hst
      have g1 : w.cell? ⟨b, off + i * 2, none⟩ = some (.int .i64 x.1) := by simpa using g 0 _ rfl
      have g2 : w.cell? ⟨b, off + i * 2 + 1, none⟩ = some (.int .i64 x.2) := by simpa using g 1 _ rfl
      have HBL : Hid (b < w.heap.size) := block_lt_of_cell g1
      have G1 := Lib.hid g1
      have G2 := Lib.hid g2
      have HST := Lib.hid hst
      have HLL := Lib.hid hll
      clear hx g hst hpr hil hll g1 g2
      go_wp2_with fail
      refine wp_region_script_at [(true, 0), (true, 1), (true, 2), (true, 3), (true, 4), (true, 5), (true, 6), (true, 7), (true, 8), (true, 9), (true, 10), (true, 11), (true, 12), (false, 13), (false, 14), (true, 15)] (by kernel_rfl) (by kernel_rfl) (fun _ _ d _ _ h => by cases d <;> exact h) ?_
      intro W U hW
      have VW : Hid (Up wr W) := U
      clear U hW q5
      refine ⟨fun W' => Below bq wr W', Up.below' VW.out HBS.out, ?_⟩
      haveI : Nonempty (InC (fun W' => Below bq wr W')) := ⟨⟨W, Up.below' VW.out HBS.out⟩⟩
      have k5 : ∀ y : InC (fun W' => Below bq wr W'), y.w.cell? ⟨bo, 5, none⟩ = some (.slice (some ⟨b, off, none⟩) m c) := fun y => by rw [cell_of_row y.w bo 5 _ _ _ ((y.h.block _ HBO2.out).trans XR.out)]; rfl
      have k1 : ∀ y : InC (fun W' => Below bq wr W'), y.w.cell? ⟨b, off + i * 2, none⟩ = some (.int .i64 x.1) := fun y => (y.h.cell (p := ⟨b, off + i * 2, none⟩) (by show b < bq; have := HBL.out; have := HBQ.out; omega)).trans (cell_up G1.out UW.out)
      have k2 : ∀ y : InC (fun W' => Below bq wr W'), y.w.cell? ⟨b, off + i * 2 + 1, none⟩ = some (.int .i64 x.2) := fun y => (y.h.cell (p := ⟨b, off + i * 2 + 1, none⟩) (by show b < bq; have := HBL.out; have := HBQ.out; omega)).trans (cell_up G2.out UW.out)
      simp only [pick2, List.getElem?_cons_zero, List.getElem?_cons_succ]
      repeat (with_reducible refine wpScript_still (fun K hK => ?_); go_simp; with_reducible refine hK _ ?_; clear hK K)
      clear k5 k1 k2
      refine wpScript_chain (fun K hK => ?_)
      go_simp
      obtain ⟨W4, hW4⟩ : ∃ W4, W4 = W.alloc (.cells #[.int .i64 x.1, .int .i64 x.2] 3 (0, 0)) := ⟨_, rfl⟩
      rw [← hW4]
      have hu : Up wr W4 := by rw [hW4]; exact VW.out.alloc _
      have hr2 : RowAt W4 (some ⟨W.heap.size, 0, none⟩) 1 iEnc [x.1, x.2] := rowAt_block (D := #[.int .i64 x.1, .int .i64 x.2]) (fun _ _ => rfl) rfl (by rw [hW4]; exact heap_new rfl)
      refine hK _ _ (inC (Up.below' hu HBS.out)) ?_
      clear hK K hW4
      refine wpScript_want rfl (fun K hK => ?_)
      refine wp_appR (.tmp 27) (.tmp 40) eltInt (by omega) rfl rfl bq _ (lotNs (o.lots.take i)) _ 2 2 [x.1, x.2] rfl rfl rfl (fun x _ => iEnc_len x) (fun x _ => iEnc_one x) (HO.out.up hu) hr2 (by have := HLL.out; simp; omega) (Nat.le_trans HBS.out hu.size) ?_
      intro p' m' d' w5 o5 b5 _
      rw [← HST.out] at o5
      have O5 := Lib.hid o5
      have B5 : Hid (Below bq wr w5) := (Up.below' hu HBS.out).trans b5
      refine hK _ _ (inC B5.out) ?_
      clear hK K o5 b5 hr2 hu
      repeat (with_reducible refine wpScript_still (fun K hK => ?_); go_simp; with_reducible refine hK _ ?_; clear hK K)
      refine wpScript_nil ?_
      have B6 : Hid (Below bq W3 w5) := HU.out.trans B5.out
      clear B5
      go_wp2_with fail
      exact ⟨⟨i + 1, by omega, by go_num, O5, B6⟩, by simp [intOf]; omega⟩
    have e : i = m := by omega
    subst e
    have hO := HO.out
    rw [HM.out, List.take_of_length_le (Nat.le_refl _)] at hO
    obtain ⟨pl, cl, hvl, h1, h2, hrl, -⟩ := hO.form (fun x _ => iEnc_len x)
    obtain ⟨m2, hm2⟩ : ∃ m2, m2 = (lotNs o.lots).length := ⟨_, rfl⟩
    rw [← hm2] at hvl
    subst hvl
    rw [← hm2] at h1
    have M2 := Lib.hid hm2
    have M16 : Hid (m2 ≤ 16) := by show m2 ≤ 16; rw [hm2, lotNs_length]; have := OK.out.len; omega
    have OL := Lib.hid hrl
    have OLC := Lib.hid h1
    have OLM := Lib.hid h2
    clear hm2 hrl h1 h2 hO HO HU XA3 U1 U3 HM HRW hi hlt hm8 hc hcm
    go_wp2_with fail
    refine wp_region_script_at [(true, 0), (true, 1), (true, 3), (true, 4), (true, 6), (true, 7), (true, 9), (true, 10), (true, 11), (true, 13), (true, 14), (true, 15), (true, 17), (true, 19), (true, 20), (false, 2), (false, 5), (false, 8), (false, 12), (false, 16), (false, 18), (false, 21), (false, 22), (false, 23), (false, 24), (true, 25), (true, 26), (true, 27), (true, 28), (true, 29)] (by kernel_rfl) (by kernel_rfl) (fun _ _ d _ _ h => by cases d <;> exact h) ?_
    intro W U hW
    have VW : Hid (Up wr W) := U
    have OLW : Hid (RowAt W pl 1 iEnc (lotNs o.lots)) := OL.out.up U
    clear U hW q5 OL
    refine ⟨fun W' => Up wr W', VW.out, ?_⟩
    haveI : Nonempty (InC (fun W' => Up wr W')) := ⟨⟨W, VW.out⟩⟩
    have k0 : ∀ y : InC (fun W' => Up wr W'), y.w.cell? ⟨bo, 0, none⟩ = some (.int .i64 o.no) := fun y => by rw [cell_of_row y.w bo 0 _ _ _ ((y.h.block _ (lt_of_block XR.out)).trans XR.out)]; rfl
    have k1 : ∀ y : InC (fun W' => Up wr W'), y.w.cell? ⟨bo, 1, none⟩ = some (.int .i64 o.farm) := fun y => by rw [cell_of_row y.w bo 1 _ _ _ ((y.h.block _ (lt_of_block XR.out)).trans XR.out)]; rfl
    have k2 : ∀ y : InC (fun W' => Up wr W'), y.w.cell? ⟨bo, 2, none⟩ = some (.int .i64 o.price) := fun y => by rw [cell_of_row y.w bo 2 _ _ _ ((y.h.block _ (lt_of_block XR.out)).trans XR.out)]; rfl
    have k3 : ∀ y : InC (fun W' => Up wr W'), y.w.cell? ⟨bo, 3, none⟩ = some (.int .i64 o.lo) := fun y => by rw [cell_of_row y.w bo 3 _ _ _ ((y.h.block _ (lt_of_block XR.out)).trans XR.out)]; rfl
    have k4 : ∀ y : InC (fun W' => Up wr W'), y.w.cell? ⟨bo, 4, none⟩ = some (.int .i64 o.hi) := fun y => by rw [cell_of_row y.w bo 4 _ _ _ ((y.h.block _ (lt_of_block XR.out)).trans XR.out)]; rfl
    have kc : ∀ y : InC (fun W' => Up wr W'), (convert 27 9 (.slice sp 16 sc)).run Tryd.prog y.w = .ok (.string (bsOf salt)) y.w := fun y => CV.out y.w (Up.trans UW.out y.h)
    simp only [pick2, List.getElem?_cons_zero, List.getElem?_cons_succ]
    repeat (with_reducible refine wpScript_still (fun K hK => ?_); go_simp; with_reducible refine hK _ ?_; clear hK K)
    clear k0 k1 k2 k3 k4 kc
    refine wpScript_chain (fun K hK => ?_)
    go_simp
    refine (rc_Int o.no W).mono ?_
    rintro e w1 ⟨rfl, u1⟩
    have Vw1 : Hid (Up wr w1) := Up.trans VW.out u1
    have OLw1 : Hid (RowAt w1 pl 1 iEnc (lotNs o.lots)) := OLW.out.up u1
    refine hK _ _ (inC Vw1.out) ?_
    clear hK K u1 OLW
    refine wpScript_chain (fun K hK => ?_)
    go_simp
    refine (rc_Int o.farm w1).mono ?_
    rintro e w2 ⟨rfl, u1⟩
    have Vw2 : Hid (Up wr w2) := Up.trans Vw1.out u1
    have OLw2 : Hid (RowAt w2 pl 1 iEnc (lotNs o.lots)) := OLw1.out.up u1
    refine hK _ _ (inC Vw2.out) ?_
    clear hK K u1 OLw1
    refine wpScript_chain (fun K hK => ?_)
    go_simp
    refine (rc_Int o.price w2).mono ?_
    rintro e w3 ⟨rfl, u1⟩
    have Vw3 : Hid (Up wr w3) := Up.trans Vw2.out u1
    have OLw3 : Hid (RowAt w3 pl 1 iEnc (lotNs o.lots)) := OLw2.out.up u1
    refine hK _ _ (inC Vw3.out) ?_
    clear hK K u1 OLw2
    refine wpScript_chain (fun K hK => ?_)
    go_simp
    refine (rc_Int o.lo w3).mono ?_
    rintro e w4 ⟨rfl, u1⟩
    have Vw4 : Hid (Up wr w4) := Up.trans Vw3.out u1
    have OLw4 : Hid (RowAt w4 pl 1 iEnc (lotNs o.lots)) := OLw3.out.up u1
    refine hK _ _ (inC Vw4.out) ?_
    clear hK K u1 OLw3
    refine wpScript_chain (fun K hK => ?_)
    go_simp
    refine (rc_Int o.hi w4).mono ?_
    rintro e w5 ⟨rfl, u1⟩
    have Vw5 : Hid (Up wr w5) := Up.trans Vw4.out u1
    have OLw5 : Hid (RowAt w5 pl 1 iEnc (lotNs o.lots)) := OLw4.out.up u1
    refine hK _ _ (inC Vw5.out) ?_
    clear hK K u1 OLw4
    refine wpScript_chain (fun K hK => ?_)
    go_simp
    refine (rints_calls pl m2 cl (lotNs o.lots) w5 M2.out (by have := M16.out; omega) OLC.out OLM.out OLw5.out).mono ?_
    rintro e w6 ⟨s2, rfl, o6, u6⟩
    obtain ⟨p2, c2, h2, -, -⟩ := o6.form
    obtain ⟨n2, hn2⟩ : ∃ n2, n2 = ((ints (lotNs o.lots)).map elIt).length := ⟨_, rfl⟩
    rw [← hn2] at h2
    subst h2
    have V6 : Hid (Up wr w6) := Up.trans Vw5.out u6
    have O6 := Lib.hid o6
    refine hK _ _ (inC V6.out) ?_
    clear hK K o6 u6 hn2 OLw5
    refine wpScript_chain (fun K hK => ?_)
    go_simp
    refine (rc_Text (bsOf salt) w6).mono ?_
    rintro e w7 ⟨rfl, u7⟩
    have V7 : Hid (Up wr w7) := Up.trans V6.out u7
    have O7 := Lib.hid (O6.out.up u7)
    refine hK _ _ (inC V7.out) ?_
    clear hK K u7 O6
    refine wpScript_chain (fun K hK => ?_)
    go_simp
    obtain ⟨b8, hb8⟩ : ∃ b, b = w7.heap.size := ⟨_, rfl⟩
    rw [← hb8]
    obtain ⟨D28, hD28⟩ : ∃ D : Array Value, D = #[.int .i64 1, .int .i64 o.no, .string ⟨#[]⟩, .slice none 0 0, .int .i64 1, .int .i64 o.farm, .string ⟨#[]⟩, .slice none 0 0, .int .i64 1, .int .i64 o.price, .string ⟨#[]⟩, .slice none 0 0, .int .i64 1, .int .i64 o.lo, .string ⟨#[]⟩, .slice none 0 0, .int .i64 1, .int .i64 o.hi, .string ⟨#[]⟩, .slice none 0 0, .int .i64 3, .int .i64 0, .string ⟨#[]⟩, .slice p2 n2 c2, .int .i64 2, .int .i64 0, .string (bsOf salt), .slice none 0 0] := ⟨_, rfl⟩
    rw [← hD28]
    obtain ⟨w8, hw8⟩ : ∃ w8, w8 = w7.alloc (.cells D28 64 (0, 0)) := ⟨_, rfl⟩
    rw [← hw8]
    have u8 : Up w7 w8 := by rw [hw8]; exact (Up.refl w7).alloc _
    obtain ⟨L8, hL8⟩ : ∃ L, L = (ints (headNs o)).map elIt ++ [lstEl p2 n2 c2 (ints (lotNs o.lots)), elIt (.inr (bsOf salt))] := ⟨_, rfl⟩
    have hl8 : L8.length = 7 := by rw [hL8]; rfl
    have x8 : OwnV w8 b8 (.slice (some ⟨b8, 0, none⟩) L8.length L8.length) L8 := ownV_block (D := D28) (by rw [hw8]; exact heap_new hb8) (by rw [hD28, hL8]; rfl) (by rw [hD28, hl8]; rfl) (by rw [hl8]; unfold maxLen; omega)
    rw [hl8] at x8
    have V8 : Hid (Up wr w8) := Up.trans V7.out u8
    have O8 := Lib.hid (O7.out.up u8)
    have X8 := Lib.hid x8
    have HL8 := Lib.hid hL8
    refine hK _ _ (inC V8.out) ?_
    clear hK K u8 O7 hw8 hD28 hb8 x8 hL8 hl8
    refine wpScript_chain (fun K hK => ?_)
    go_simp
    refine (rc_List (some ⟨b8, 0, none⟩) 7 7 w8).mono ?_
    rintro e w9 ⟨rfl, u9⟩
    have V9 : Hid (Up wr w9) := Up.trans V8.out u9
    have O9 := Lib.hid (O8.out.up u9)
    have X9 := Lib.hid (X8.out.up u9)
    refine hK _ _ (inC V9.out) ?_
    clear hK K u9 O8 X8
    have hE : Calls Tryd.prog 30 #[.agg #[.int .i64 3, .int .i64 0, .string ⟨#[]⟩, .slice (some ⟨b8, 0, none⟩) 7 7]] w9 (fun e w' => ∃ pv cv, e = .returned (.tuple #[.slice pv (encMsg o salt).length cv, .int .i64 0]) ∧ SB w' pv (encMsg o salt) ∧ (encMsg o salt).length ≤ cv ∧ cv ≤ maxLen ∧ Up w9 w') := by
      obtain ⟨p0, c0, e0, hels, hlow⟩ := X9.out.form
      injection e0 with e1 e2 e3
      subst e1 e3
      have hok := OK.out
      have hl : L8.length = 7 := by rw [HL8.out]; rfl
      have hcl := encIts_len (lotNs o.lots)
      have hll := lotNs_length o.lots
      have h8 := hok.len
      have he9 : L8.map El.e = (headNs o).map Enc.encI ++ [encIts (ints (lotNs o.lots)), Enc.encT salt] := by
        rw [HL8.out, List.map_append, els_map, ints, List.map_map]
        have : elIt (.inr (bsOf salt)) = ⟨2, 0, bsOf salt, none, 0, 0, 0, Enc.encT salt⟩ := by simp [elIt, bsOf]
        rw [this]; rfl
      have hcode : 3 :: (Enc.num L8.length ++ encEls L8) = encMsg o salt := by
        have : Enc.encL (L8.map El.e) = encMsg o salt := by rw [he9]; rfl
        rw [← this, Enc.encL, encEls, List.length_map]
      have hml := encMsg_len hok HS16.out
      have := rc_encodeL (some ⟨b8, 0, none⟩) 7 L8 w9 (fun el hel => by
        rw [HL8.out] at hel
        rcases List.mem_append.1 hel with hel | hel
        · obtain ⟨x, hx, rfl⟩ := List.mem_map.1 hel
          exact ⟨elIt_encAs w9 x (ints_ok (headNs_ok hok) x hx), elIt_formR w9 x, by cases x <;> exact Nat.zero_le _⟩
        · simp only [List.mem_cons, List.not_mem_nil, or_false] at hel
          rcases hel with rfl | rfl
          · exact rel_list (n := n2) O9.out (ints_ok (lotNs_ok hok)) (by simp [ints]; omega) (by
              rw [encIts, Enc.encL, List.length_cons, List.length_append] at hcl; omega)
          · exact ⟨elIt_encAs w9 (.inr (bsOf salt)) (by show (bsOf salt).size ≤ 1048576; rw [HES.out]; omega), elIt_formR w9 _, Nat.zero_le _⟩) hels (by omega) (by
          have : (encEls L8).length ≤ (encMsg o salt).length := by rw [← hcode, List.length_cons, List.length_append]; omega
          omega)
      rw [hcode, hl] at this
      refine this.mono ?_
      rintro e w10 ⟨v, rfl, ov, uv⟩
      obtain ⟨pv, cv, rfl, g1, g2, g3⟩ := ov.form
      exact ⟨pv, cv, rfl, g3, g1, g2, uv⟩
    have HE := Lib.hid hE
    clear hE HL8 O9 X9 V6 V7 V8 Vw1 Vw2 Vw3 Vw4 Vw5 OK
    obtain ⟨M, hM⟩ : ∃ M, M = encMsg o salt := ⟨_, rfl⟩
    rw [← hM] at HE
    have HMM := Lib.hid hM
    clear hM
    refine wpScript_chain (fun K hK => ?_)
    go_simp
    refine HE.out.mono ?_
    rintro e w10 ⟨pv, cv, rfl, g3, g1, g2, u10⟩
    have G1 := Lib.hid g1
    have G2 := Lib.hid g2
    have G3 := Lib.hid g3
    have V10 : Hid (Up wr w10) := Up.trans V9.out u10
    refine hK _ _ (inC V10.out) ?_
    clear hK K g1 g2 g3 u10 HE
    repeat (with_reducible refine wpScript_still (fun K hK => ?_); go_simp; with_reducible refine hK _ ?_; clear hK K)
    refine wpScript_nil ?_
    have UF : Hid (Up w w10) := Up.trans UW.out V10.out
    clear V10 UW V9 XR
    go_wp2_with fail
    go_ret2
    exact ⟨pv, cv, by rw [← HMM.out] <;> rfl, by rw [← HMM.out]; exact G3.out, by rw [← HMM.out]; exact G1.out, G2.out, UF.out⟩

theorem rmessage_calls (a : OfA) (salt : List UInt8) (sp : Option Addr) (sc : Nat) (w : World) (h : LtsAt w a) (hsb : SB w sp salt) : Calls Tryd.prog 13 #[.agg (ofCells a).toArray, .slice sp salt.length sc] w (RetD w (msgL a.o salt) (msgE a.o salt)) := by
  unfold msgL
  by_cases hb : msgE a.o salt = 0
  · rw [if_pos hb, hb]; exact rmessage_good a salt sp sc w h hsb hb
  · rw [if_neg hb]; exact rmessage_bad a salt sp sc w h hb

end Go.Proofs.YtmifpokafaiebaaDoor

namespace Go.Proofs.YtmifpokafaiebaaDoor
open Go Go.RowKit
set_option linter.unusedVariables false
set_option maxRecDepth 100000

set_option maxHeartbeats 2000000 in
theorem rcommit_calls (a : OfA) (salt : List UInt8) (sp : Option Addr) (sc : Nat) (w : World) (h : LtsAt w a) (hsb : SB w sp salt) :
    Calls Tryd.prog 15 #[.agg (ofCells a).toArray, .slice sp salt.length sc] w (RetD w (cmtL a.o salt) (msgE a.o salt)) := by
  have MS := Lib.hid fun W (hu : Up w W) => rmessage_calls a salt sp sc W (h.up hu) (hsb.up hu)
  have hAs : Hid ((ofCells a).toArray.size = 6) := rfl
  have HOK : Hid (msgE a.o salt = 0 → (msgL a.o salt).length ≤ 2000) := fun hm => by
    have := msgE_ok hm
    rw [msgL, if_pos hm]; exact encMsg_len this.1 this.2
  have HCM : Hid (msgE a.o salt = 0 → cmtL a.o salt = Sha.tagged ofTag.data.toList (msgL a.o salt)) := fun hm => by
    rw [cmtL, if_pos hm, msgL, if_pos hm]; rfl
  have HCN : Hid (msgE a.o salt ≠ 0 → cmtL a.o salt = []) := fun hm => by rw [cmtL, if_neg hm]
  obtain ⟨CM, hCM⟩ : ∃ CM, CM = cmtL a.o salt := ⟨_, rfl⟩
  rw [← hCM] at HCM HCN ⊢
  obtain ⟨ee, hee⟩ : ∃ ee, ee = msgE a.o salt := ⟨_, rfl⟩
  rw [← hee] at MS HOK HCM HCN ⊢
  obtain ⟨M, hM⟩ : ∃ M, M = msgL a.o salt := ⟨_, rfl⟩
  rw [← hM] at MS HOK HCM
  obtain ⟨A, hA⟩ : ∃ A, A = (ofCells a).toArray := ⟨_, rfl⟩
  rw [← hA] at MS hAs ⊢
  obtain ⟨n, hn⟩ : ∃ n, n = salt.length := ⟨_, rfl⟩
  rw [← hn] at MS ⊢
  obtain ⟨mn, hmn⟩ : ∃ mn, mn = M.length := ⟨_, rfl⟩
  have HMN := Lib.hid hmn
  clear hA hee hn h hsb hM hmn hCM
  go_enter Tryd.func15, Tryd.ntmps15
  go_wp2_with ((with_reducible show wpList _ _ _ (Oper.mk _ (Op.load _ (Operand.tmp 2)) _ _ _ _ :: _) _ _); refine wpList_named ?_; intro W1 hW1; (have u1 : Up w W1 := by (rw [hW1]; exact (Up.refl w).alloc _)); (have xa : W1.heap[w.heap.size]? = some (.cells A 26 (0, 0)) := by (rw [hW1]; exact heap_new rfl)); have U1 := Lib.hid u1; have XA := Lib.hid xa; clear u1 xa hW1; refine wpList_load_arr rfl 26 (.tmp 2) rfl w.heap.size 0 rfl A _ (rangeAt_row XA.out) rfl rfl (by rw [hAs.out]; rfl) ?_)
  refine (MS.out W1 U1.out).mono ?_
  rintro e W2 ⟨pm, cm, rfl, sbm, hc1, hc2, u2⟩
  rw [← HMN.out] at hc1
  rw [← HMN.out]
  have U2 : Hid (Up w W2) := Up.trans U1.out u2
  have SBM := Lib.hid sbm
  have HC1 := Lib.hid hc1
  have HC2 := Lib.hid hc2
  clear u2 sbm hc1 hc2 MS XA U1 hAs
  by_cases h0 : ee = 0
  case neg =>
    have d0 : (ee != 0) = true := by rw [bne_iff_ne]; exact h0
    have eCM := HCN.out h0
    subst eCM
    clear h0
    go_wp2_with fail
    go_ret2
    exact ⟨none, 0, rfl, fun h => absurd rfl h, Nat.le_refl _, by unfold maxLen; omega, U2.out⟩
  subst h0
  have d0 : ((0 : Int) != 0) = false := by simp
  have hcm := HCM.out rfl
  have hTG := rtagged_calls ofTag pm cm M W2 (by decide) (by have := HOK.out rfl; omega) (by rw [← HMN.out]; exact HC1.out) HC2.out SBM.out
  obtain ⟨D, hD⟩ : ∃ D, D = Sha.tagged ofTag.data.toList M := ⟨_, rfl⟩
  have hDl : D.length = 32 := by rw [hD, Sha.tagged_length]
  rw [← hD] at hTG hcm
  have hcm2 := hcm.symm
  subst hcm2
  obtain ⟨E, hE⟩ : ∃ E, E = (u8s D).toArray := ⟨_, rfl⟩
  rw [← hE] at hTG
  rw [← HMN.out] at hTG
  have hEs : E.size = 32 := by rw [hE, List.size_toArray, u8s_length, hDl]
  have hEc : E.all (·.oneCell') = true := by
    rw [hE, Array.all_eq_true_iff_forall_mem]
    intro v hv
    exact u8s_one _ v (by simpa using hv)
  have HE := Lib.hid hE
  have HEs := Lib.hid hEs
  have HEc := Lib.hid hEc
  have HDL := Lib.hid hDl
  have TG := Lib.hid hTG
  clear hD hDl hTG hE hEs hEc HCM HCN HOK SBM HC1 HC2 HMN
  go_wp2_with fail
  refine TG.out.mono ?_
  rintro e w1 ⟨rfl, u1⟩
  have UX : Hid (Up w w1) := Up.trans U2.out u1
  clear u1 TG
  obtain ⟨bd, hbd⟩ : ∃ bd, bd = w1.heap.size := ⟨_, rfl⟩
  have HBD := Lib.hid hbd
  go_wp2_with (first | ((with_reducible show wpList _ _ _ (Oper.mk _ (Op.store _ (Operand.tmp 8) (Operand.tmp 19)) _ _ _ _ :: _) _ _); refine wpList_store_row rfl 47 (.tmp 8) (.tmp 19) rfl _ E rfl rfl 47 _ (heap_new rfl) (by rw [HEs.out]; rfl) (by rw [HEs.out]; rfl) HEc.out ?_; refine wpList_named ?_; intro W3 hW3; rw [← hbd]; have h3 : W3.heap[bd]? = some (.cells (u8s D).toArray 47 (0, 0)) := (by rw [hW3, hbd, ← HE.out]; exact setRow_heap _ _ _ _ _ _ (heap_new rfl)); have u3 : Up w1 W3 := (by rw [hW3]; exact below_setRow ((Up.refl w1).alloc _) (Nat.le_refl _) _); have H3 := Lib.hid h3; have U3 := Lib.hid u3; clear h3 u3 hW3 hbd) | (refine wpList_named ?_; intro W4 hW4; at_builtin; (have hu : Up W3 W4 := by (rw [hW4]; exact (Up.refl W3).alloc _)); (have ho : Own W4 W3.heap.size (.slice (some ⟨W3.heap.size, 0, none⟩) 0 0) [] := by (rw [hW4]; exact Own.empty W3)); have HU := Lib.hid hu; have HO := Lib.hid ho; (have SD : Hid (SB W4 (some ⟨bd, 0, none⟩) D) := (SB.of_digest H3.out).up hu); clear hW4 hu ho; refine wpList_app rfl (.tmp 20) (.tmp 21) rfl rfl W3.heap.size _ [] (some ⟨bd, 0, none⟩) 32 32 D rfl rfl HDL.out.symm HO.out SD.out (by simp; have := HDL.out; omega) HU.out.size ?_; intro v5 w5 o5 b5; rw [List.nil_append] at o5; have O5 := Lib.hid o5; have B5 := Lib.hid b5; clear o5 b5))
  obtain ⟨p5, c5, hv5, g1, g2, g3⟩ := O5.out.form
  rw [HDL.out] at hv5 g1
  subst hv5
  go_ret2
  exact ⟨p5, c5, by rw [HDL.out] <;> rfl, g3, by rw [HDL.out]; exact g1, g2, Up.trans UX.out (Up.trans U3.out (Below.trans HU.out B5.out))⟩

end Go.Proofs.YtmifpokafaiebaaDoor
