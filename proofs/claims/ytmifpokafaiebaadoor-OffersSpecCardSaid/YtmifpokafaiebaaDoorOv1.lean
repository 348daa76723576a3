/- the reference's within, valid, Check. -/
import Derived.Test.YtmifpokafaiebaaDoorLbP
namespace Go.Proofs.YtmifpokafaiebaaDoor
open Go Go.RowKit
set_option linter.unusedVariables false
set_option maxRecDepth 100000

theorem rwithin_calls (n lo hi : Int) (w : World) : Calls Tryd.prog 52 #[.int .i64 n, .int .i64 lo, .int .i64 hi] w fun e w' => e = .returned (.bool (decide (lo ≤ n) && decide (n ≤ hi))) ∧ Up w w' := by
  by_cases h : lo ≤ n
  · have d : decide (lo ≤ n) = true := by simpa using h
    rw [d, Bool.true_and]
    clear h
    go_enter Tryd.func52, Tryd.ntmps52
    go_wp2
    go_ret
    exact ⟨rfl, Up.refl _⟩
  · have d : decide (lo ≤ n) = false := by simpa using h
    rw [d, Bool.false_and]
    clear h
    go_enter Tryd.func52, Tryd.ntmps52
    go_wp2
    go_ret
    exact ⟨rfl, Up.refl _⟩

set_option maxHeartbeats 16000000 in
theorem rvalid_calls (a : OfA) (w : World) (h : LtsAt w a) (h8 : a.o.lots.length ≤ 8) : Calls Tryd.prog 36 #[.agg (ofCells a).toArray] w fun e w' => e = .returned (.bool (!badHead a.o && lotsB (-1) a.o.lots)) ∧ Up w w' := by
  obtain ⟨o, p, c⟩ := a
  obtain ⟨hr, hc, hcm⟩ := h
  unfold ofCells
  simp only at hr hc hcm h8 ⊢
  obtain ⟨m, hm⟩ : ∃ m, m = o.lots.length := ⟨_, rfl⟩
  rw [← hm] at hc h8 ⊢
  obtain ⟨V, hV⟩ : ∃ V, V = (!badHead o && lotsB (-1) o.lots) := ⟨_, rfl⟩
  rw [← hV]
  obtain ⟨a1, ha1⟩ : ∃ b, b = (decide (0 ≤ o.no) && decide (o.no ≤ 1048576)) := ⟨_, rfl⟩
  obtain ⟨a2, ha2⟩ : ∃ b, b = (decide (0 ≤ o.farm) && decide (o.farm ≤ 599)) := ⟨_, rfl⟩
  obtain ⟨a3, ha3⟩ : ∃ b, b = (decide (-1073741824 ≤ o.price) && decide (o.price ≤ 1073741824)) := ⟨_, rfl⟩
  obtain ⟨a4, ha4⟩ : ∃ b, b = (decide (0 ≤ o.lo) && decide (o.lo ≤ o.hi)) := ⟨_, rfl⟩
  obtain ⟨a5, ha5⟩ : ∃ b, b = decide (10000 < o.hi) := ⟨_, rfl⟩
  have w1 := Lib.hid fun W => rwithin_calls o.no 0 1048576 W
  have w2 := Lib.hid fun W => rwithin_calls o.farm 0 599 W
  have w3 := Lib.hid fun W => rwithin_calls o.price (-1073741824) 1073741824 W
  have w4 := Lib.hid fun W => rwithin_calls o.lo 0 o.hi W
  have d5 : decide (10000 < o.hi) = a5 := ha5.symm
  have hbh : badHead o = (!a1 || !a2 || !a3 || !a4 || a5 || decide (m = 0)) := by
    unfold badHead
    rw [ha1, ha2, ha3, ha4, ha5, hm]
    rw [Bool.eq_iff_iff]
    simp only [Bool.or_eq_true, Bool.not_eq_true', Bool.and_eq_false_iff, decide_eq_true_eq, decide_eq_false_iff_not]
    omega
  rw [hbh] at hV
  rw [← ha1] at w1
  rw [← ha2] at w2
  rw [← ha3] at w3
  rw [← ha4] at w4
  have HV := Lib.hid hV
  have HM := Lib.hid hm
  have HRW := Lib.hid hr
  clear hV hm hr ha1 ha2 ha3 ha4 ha5 hbh
  go_enter Tryd.func36, Tryd.ntmps36
  go_wp2_with fail
  obtain ⟨bo, hbo⟩ : ∃ b, b = w.heap.size := ⟨_, rfl⟩
  refine calls_named0 ?_
  intro W1 hW1
  have u1 : Up w W1 := by rw [hW1]; exact (Up.refl w).alloc _
  have x1 : W1.heap[bo]? = some (.cells #[.int .i64 o.no, .int .i64 o.farm, .int .i64 o.price, .int .i64 o.lo, .int .i64 o.hi, .slice p m c] 26 (0, 0)) := by rw [hW1]; exact heap_new hbo
  rw [← hbo]
  have U1 := Lib.hid u1
  have X1 := Lib.hid x1
  clear hW1 u1 x1 hbo
  refine (w1.out W1).mono ?_
  rintro e W2 ⟨rfl, u2⟩
  have U2 : Hid (Up w W2) := Up.trans U1.out u2
  have X2 := Lib.hid ((u2.block _ (lt_of_block X1.out)).trans X1.out)
  have l1_1 : W2.cell? ⟨bo, 1, none⟩ = some (.int .i64 o.farm) := by rw [cell_of_row W2 bo 1 _ _ _ X2.out]; rfl
  clear u2 w1 X1 U1
  cases a1
  case false =>
    have hv : V = false := by rw [HV.out]; simp
    subst hv
    clear HV
    go_wp2_with fail
    go_ret
    exact ⟨rfl, U2.out⟩
  go_wp2_with fail
  clear l1_1
  refine (w2.out W2).mono ?_
  rintro e W3 ⟨rfl, u3⟩
  have U3 : Hid (Up w W3) := Up.trans U2.out u3
  have X3 := Lib.hid ((u3.block _ (lt_of_block X2.out)).trans X2.out)
  have l2_2 : W3.cell? ⟨bo, 2, none⟩ = some (.int .i64 o.price) := by rw [cell_of_row W3 bo 2 _ _ _ X3.out]; rfl
  clear u3 w2 X2 U2
  cases a2
  case false =>
    have hv : V = false := by rw [HV.out]; simp
    subst hv
    clear HV
    go_wp2_with fail
    go_ret
    exact ⟨rfl, U3.out⟩
  go_wp2_with fail
  clear l2_2
  refine (w3.out W3).mono ?_
  rintro e W4 ⟨rfl, u4⟩
  have U4 : Hid (Up w W4) := Up.trans U3.out u4
  have X4 := Lib.hid ((u4.block _ (lt_of_block X3.out)).trans X3.out)
  have l3_3 : W4.cell? ⟨bo, 3, none⟩ = some (.int .i64 o.lo) := by rw [cell_of_row W4 bo 3 _ _ _ X4.out]; rfl
  have l3_4 : W4.cell? ⟨bo, 4, none⟩ = some (.int .i64 o.hi) := by rw [cell_of_row W4 bo 4 _ _ _ X4.out]; rfl
  clear u4 w3 X3 U3
  cases a3
  case false =>
    have hv : V = false := by rw [HV.out]; simp
    subst hv
    clear HV
    go_wp2_with fail
    go_ret
    exact ⟨rfl, U4.out⟩
  go_wp2_with fail
  clear l3_3 l3_4
  refine (w4.out W4).mono ?_
  rintro e W5 ⟨rfl, u5⟩
  have U5 : Hid (Up w W5) := Up.trans U4.out u5
  have X5 := Lib.hid ((u5.block _ (lt_of_block X4.out)).trans X4.out)
  have l4_4 : W5.cell? ⟨bo, 4, none⟩ = some (.int .i64 o.hi) := by rw [cell_of_row W5 bo 4 _ _ _ X5.out]; rfl
  clear u5 w4 X4 U4
  cases a4
  case false =>
    have hv : V = false := by rw [HV.out]; simp
    subst hv
    clear HV
    go_wp2_with fail
    go_ret
    exact ⟨rfl, U5.out⟩
  cases a5
  case true =>
    have hv : V = false := by rw [HV.out]; simp
    subst hv
    clear HV
    go_wp2_with fail
    go_ret
    exact ⟨rfl, U5.out⟩
  have HV2 : Hid (V = (decide (m ≠ 0) && lotsB (-1) o.lots)) := by show V = _; rw [HV.out]; by_cases h : m = 0 <;> simp [h]
  clear HV
  go_wp2_with fail
  clear l4_4
  go_loopw [3] (fun v3 wq => ∃ (i : Nat) (last : Int), i ≤ m ∧ v3 = .int .i64 i ∧ -1 ≤ last ∧ Hid (i = 0 → last = -1) ∧ Hid (∀ j (h : j < o.lots.length), i = j + 1 → (o.lots[j]).1 = last ∧ 0 ≤ last) ∧ Hid (lotsB (-1) o.lots = lotsB last (o.lots.drop i)) ∧ Hid (Up W5 wq)) (fun v3 _ => m - (intOf v3).toNat)
  case atStart => exact ⟨0, -1, by omega, rfl, by omega, fun _ => rfl, fun j _ h => by omega, rfl, Up.refl _⟩
  case round =>
    obtain ⟨i, last, hi, rfl, hlast, HL0, HLJ, HB, HU⟩ := hrel
    have hX := (HU.out.block _ (lt_of_block X5.out)).trans X5.out
    have q5 : wr.cell? ⟨bo, 5, none⟩ = some (.slice p m c) := by rw [cell_of_row wr bo 5 _ _ _ hX]; rfl
    have XR := Lib.hid hX
    clear hX
    by_cases hlt : i < m
    case neg =>
      have hin : i = m := by omega
      have hv : V = decide (m ≠ 0) := by
        rw [HV2.out, HB.out, List.drop_of_length_le (by rw [← HM.out]; omega)]; simp [lotsB]
      clear HV2 HB
      by_cases h0 : m = 0
      · have d9 : decide (0 < m) = false := by simp; omega
        rw [decide_eq_false (by omega)] at hv
        subst hv
        clear h0
        go_wp2_with fail
        go_ret
        exact ⟨rfl, Up.trans U5.out HU.out⟩
      · have d9 : decide (0 < m) = true := by simp; omega
        rw [decide_eq_true h0] at hv
        subst hv
        clear h0
        go_wp2_with fail
        go_ret
        exact ⟨rfl, Up.trans U5.out HU.out⟩
    have hil : i < o.lots.length := by rw [← HM.out]; exact hlt
    have hm0 : m ≠ 0 := by omega
    obtain ⟨b, off, rfl, hpr⟩ := HRW.out (by rintro hh; rw [hh] at hil; simp at hil)
    have g := rangeAt_up (hpr i hil) (Up.trans U5.out HU.out)
    have hst := lotsB_drop last o.lots i hil
    obtain ⟨x, hx⟩ : ∃ x, x = o.lots[i] := ⟨_, rfl⟩
    rw [← hx] at g hst
    have hnx : ∀ j (h : j < o.lots.length), i + 1 = j + 1 → (o.lots[j]).1 = x.1 := fun j h e => by
      have : j = i := by omega
      subst this; rw [hx]
    have hpv : ∀ k, i = k + 1 → wr.cell? ⟨b, off + k * 2, none⟩ = some (.int .i64 last) ∧ 0 ≤ last := fun k hk => by
      have hkl : k < o.lots.length := by omega
      have h1 := HLJ.out k hkl hk
      refine ⟨?_, h1.2⟩
      have := rangeAt_up (hpr k hkl) (Up.trans U5.out HU.out) 0 _ rfl
      rw [← h1.1]
      simpa using this
    have G : Hid (wr.rangeAt b (off + i * 2) (#[Value.int .i64 x.1, Value.int .i64 x.2] : Array Value).toList) := g
    have HST := Lib.hid hst
    have HNX := Lib.hid hnx
    have HPV := Lib.hid hpv
    have HV3 : Hid (V = lotsB last (o.lots.drop i)) := by show V = _; rw [HV2.out, decide_eq_true hm0, Bool.true_and, HB.out]
    obtain ⟨b1, hb1⟩ : ∃ b, b = (decide (0 ≤ x.1) && decide (x.1 ≤ 7)) := ⟨_, rfl⟩
    obtain ⟨b3, hb3⟩ : ∃ b, b = (decide (-1073741824 ≤ x.2) && decide (x.2 ≤ 1073741824)) := ⟨_, rfl⟩
    obtain ⟨b4, hb4⟩ : ∃ b, b = (x.2 == 0) := ⟨_, rfl⟩
    have C1 := Lib.hid fun W => rwithin_calls x.1 0 7 W
    have C3 := Lib.hid fun W => rwithin_calls x.2 (-1073741824) 1073741824 W
    rw [← hb1] at C1
    rw [← hb3] at C3
    have d4 : (x.2 == 0) = b4 := hb4.symm
    have HBAD : Hid (∀ le : Bool, (i = 0 → le = false) → (i ≠ 0 → le = decide (x.1 ≤ last)) → badLot last x = (!b1 || le || !b3 || b4)) := fun le h0 h1 => by
      unfold badLot
      rw [hb1, hb3, hb4]
      by_cases hi0 : i = 0
      · rw [h0 hi0, HL0.out hi0]
        by_cases c1 : x.1 ≤ -1 <;> by_cases c2 : 8 ≤ x.1 <;> by_cases c3 : x.2 = 0 <;> by_cases c4 : x.2 < -1073741824 <;> by_cases c5 : 1073741824 < x.2 <;> simp [c1, c2, c3, c4, c5] <;> omega
      · have hl0 := (HPV.out (i - 1) (by omega)).2
        rw [h1 hi0]
        by_cases c1 : x.1 ≤ last <;> by_cases c2 : 8 ≤ x.1 <;> by_cases c3 : x.2 = 0 <;> by_cases c4 : x.2 < -1073741824 <;> by_cases c5 : 1073741824 < x.2 <;> simp [c1, c2, c3, c4, c5] <;> omega
    have HI64 : Hid (i < 1000) := by show _ < _; omega
    have HBE := Lib.hid HB.out
    have HB1 : Hid (b1 = true → 0 ≤ x.1) := fun h => by rw [hb1] at h; simp at h; exact h.1
    clear hx g hst hnx hpv hpr hb1 hb3 hb4 HB hil hm0 HV2
    go_wp2_with (first | ((with_reducible show wpList _ _ _ (Oper.mk _ (Op.load _ (Operand.tmp 47)) _ _ _ _ :: _) _ _); refine wpList_load_arr rfl 61 (.tmp 47) rfl b (off + i * 2) rfl #[Value.int .i64 x.1, Value.int .i64 x.2] _ G.out rfl rfl (by rfl) ?_))
    haveI := UpW.some_ (wr.alloc (Obj.cells #[Value.int .i64 x.1, Value.int .i64 x.2] 61 (0, 0))).drew
    obtain ⟨bl, hbl⟩ : ∃ b, b = wr.heap.size := ⟨_, rfl⟩
    rw [← hbl]
    obtain ⟨W7, hW7⟩ : ∃ W, W = wr.alloc (Obj.cells #[Value.int .i64 x.1, Value.int .i64 x.2] 61 (0, 0)) := ⟨_, rfl⟩
    rw [← hW7] at this ⊢
    have u7 : Up wr W7 := by rw [hW7]; exact (Up.refl wr).alloc _
    have x7 : W7.heap[bl]? = some (.cells #[Value.int .i64 x.1, Value.int .i64 x.2] 61 (0, 0)) := by rw [hW7]; exact heap_new hbl
    have hz := Lib.hid fun (z : UpW W7.drew) => (Up.trans (Up.refl W7).drew z.up : Up W7 z.w)
    have U7 := Lib.hid u7
    have X7 := Lib.hid x7
    clear hW7 hbl u7 x7
    have k0 : ∀ z : UpW W7.drew, z.w.cell? ⟨bl, 0, none⟩ = some (.int .i64 x.1) := fun z => cell_up (by rw [cell_of_row W7 bl 0 _ _ _ X7.out]; rfl) (hz.out z)
    have k1 : ∀ z : UpW W7.drew, z.w.cell? ⟨bl, 1, none⟩ = some (.int .i64 x.2) := fun z => cell_up (by rw [cell_of_row W7 bl 1 _ _ _ X7.out]; rfl) (hz.out z)
    have k5 : ∀ z : UpW W7.drew, z.w.cell? ⟨bo, 5, none⟩ = some (.slice (some ⟨b, off, none⟩) m c) := fun z => cell_up q5 (Up.trans U7.out (hz.out z))
    clear q5
    have HX7 : Hid (b1 = true → 0 ≤ x.1) := HB1
    cases b1
    case false =>
      have hv : V = false := by rw [HV3.out, HST.out, HBAD.out (decide (x.1 ≤ last) && decide (i ≠ 0)) (fun h => by simp [h]) (fun h => by simp [h])]; simp
      subst hv
      clear HV3 HST HBAD k1 k5
      refine wp_region_up_k (by kernel_rfl) (by kernel_rfl) ?_
      intro R HRR
      have HRR' := Lib.hid HRR
      clear HRR
      repeat (first | ((with_reducible show wpQuiet _ _ _ _ (Oper.mk (some 51) _ _ _ _ _ :: _) _); with_reducible refine wpQuiet_step (fun K hK => ?_); go_simp; apply Exists.intro; refine ⟨fun _ => ?_, hK _ ?_⟩; (go_at_call 52; with_reducible exact Calls.quiet_up (C1.out _)); clear hK K) | ((with_reducible show wpQuiet _ _ _ _ (Oper.mk (some 72) _ _ _ _ _ :: _) _); with_reducible refine wpQuiet_step (fun K hK => ?_); go_simp; apply Exists.intro; refine ⟨fun _ => ?_, hK _ ?_⟩; (go_at_call 52; with_reducible exact Calls.quiet_up (C3.out _)); clear hK K) | go_big_quiet_skip | (with_reducible refine wpQuiet_step (fun K hK => ?_); go_simp; with_reducible refine hK _ ?_; clear hK K))
      refine wpQuiet_nil ?_
      refine HRR'.out _ ?_
      rintro w4 ⟨z, hz4⟩
      have U4 : Hid (Up W5 w4) := by show Up _ _; rw [hz4]; exact Up.trans HU.out (Up.trans U7.out (hz.out z))
      clear hz4 HRR' hz C1 C3 X7 U7
      go_wp2_with fail
      go_ret
      exact ⟨rfl, Up.trans U5.out U4.out⟩
    have HW0 : Hid (0 ≤ x.1) := HX7.out rfl
    have HW1 : Hid (-1 ≤ x.1) := by show _ ≤ _; have := HW0.out; omega
    clear HX7
    by_cases hi0 : i = 0
    case pos =>
      have e0 : decide (0 < i) = false := by simp; omega
      have HBD := Lib.hid (HBAD.out false (fun _ => rfl) (fun h => absurd hi0 h))
      clear HBAD hi0
      cases b3
      case false =>
        have hv : V = false := by rw [HV3.out, HST.out, HBD.out]; simp
        subst hv
        clear HV3 HST
        refine wp_region_up_k (by kernel_rfl) (by kernel_rfl) ?_
        intro R HRR
        have HRR' := Lib.hid HRR
        clear HRR
        repeat (first | ((with_reducible show wpQuiet _ _ _ _ (Oper.mk (some 51) _ _ _ _ _ :: _) _); with_reducible refine wpQuiet_step (fun K hK => ?_); go_simp; apply Exists.intro; refine ⟨fun _ => ?_, hK _ ?_⟩; (go_at_call 52; with_reducible exact Calls.quiet_up (C1.out _)); clear hK K) | ((with_reducible show wpQuiet _ _ _ _ (Oper.mk (some 72) _ _ _ _ _ :: _) _); with_reducible refine wpQuiet_step (fun K hK => ?_); go_simp; apply Exists.intro; refine ⟨fun _ => ?_, hK _ ?_⟩; (go_at_call 52; with_reducible exact Calls.quiet_up (C3.out _)); clear hK K) | go_big_quiet_skip | (with_reducible refine wpQuiet_step (fun K hK => ?_); go_simp; with_reducible refine hK _ ?_; clear hK K))
        refine wpQuiet_nil ?_
        refine HRR'.out _ ?_
        rintro w4 ⟨z, hz4⟩
        have U4 : Hid (Up W5 w4) := by show Up _ _; rw [hz4]; exact Up.trans HU.out (Up.trans U7.out (hz.out z))
        clear hz4 HRR' hz C1 C3 X7 U7
        go_wp2_with fail
        go_ret
        exact ⟨rfl, Up.trans U5.out U4.out⟩
      cases b4
      case true =>
        have hv : V = false := by rw [HV3.out, HST.out, HBD.out]; simp
        subst hv
        clear HV3 HST
        refine wp_region_up_k (by kernel_rfl) (by kernel_rfl) ?_
        intro R HRR
        have HRR' := Lib.hid HRR
        clear HRR
        repeat (first | ((with_reducible show wpQuiet _ _ _ _ (Oper.mk (some 51) _ _ _ _ _ :: _) _); with_reducible refine wpQuiet_step (fun K hK => ?_); go_simp; apply Exists.intro; refine ⟨fun _ => ?_, hK _ ?_⟩; (go_at_call 52; with_reducible exact Calls.quiet_up (C1.out _)); clear hK K) | ((with_reducible show wpQuiet _ _ _ _ (Oper.mk (some 72) _ _ _ _ _ :: _) _); with_reducible refine wpQuiet_step (fun K hK => ?_); go_simp; apply Exists.intro; refine ⟨fun _ => ?_, hK _ ?_⟩; (go_at_call 52; with_reducible exact Calls.quiet_up (C3.out _)); clear hK K) | go_big_quiet_skip | (with_reducible refine wpQuiet_step (fun K hK => ?_); go_simp; with_reducible refine hK _ ?_; clear hK K))
        refine wpQuiet_nil ?_
        refine HRR'.out _ ?_
        rintro w4 ⟨z, hz4⟩
        have U4 : Hid (Up W5 w4) := by show Up _ _; rw [hz4]; exact Up.trans HU.out (Up.trans U7.out (hz.out z))
        clear hz4 HRR' hz C1 C3 X7 U7
        go_wp2_with fail
        go_ret
        exact ⟨rfl, Up.trans U5.out U4.out⟩
      have HG : Hid (lotsB (-1) o.lots = lotsB x.1 (o.lots.drop (i + 1))) := by show _ = _; rw [HBE.out, HST.out, HBD.out]; simp
      clear HV3 HST HBD
      refine wp_region_up_k (by kernel_rfl) (by kernel_rfl) ?_
      intro R HRR
      have HRR' := Lib.hid HRR
      clear HRR
      repeat (first | ((with_reducible show wpQuiet _ _ _ _ (Oper.mk (some 51) _ _ _ _ _ :: _) _); with_reducible refine wpQuiet_step (fun K hK => ?_); go_simp; apply Exists.intro; refine ⟨fun _ => ?_, hK _ ?_⟩; (go_at_call 52; with_reducible exact Calls.quiet_up (C1.out _)); clear hK K) | ((with_reducible show wpQuiet _ _ _ _ (Oper.mk (some 72) _ _ _ _ _ :: _) _); with_reducible refine wpQuiet_step (fun K hK => ?_); go_simp; apply Exists.intro; refine ⟨fun _ => ?_, hK _ ?_⟩; (go_at_call 52; with_reducible exact Calls.quiet_up (C3.out _)); clear hK K) | go_big_quiet_skip | (with_reducible refine wpQuiet_step (fun K hK => ?_); go_simp; with_reducible refine hK _ ?_; clear hK K))
      refine wpQuiet_nil ?_
      refine HRR'.out _ ?_
      rintro w4 ⟨z, hz4⟩
      have U4 : Hid (Up W5 w4) := by show Up _ _; rw [hz4]; exact Up.trans HU.out (Up.trans U7.out (hz.out z))
      clear hz4 HRR' hz C1 C3 X7 U7
      go_wp2_with fail
      exact ⟨⟨i + 1, x.1, by omega, by go_num, HW1.out, fun h => by omega, fun j hj h => ⟨HNX.out j hj h, HW0.out⟩, HG, U4⟩, by simp [intOf]; omega⟩
    obtain ⟨j, rfl⟩ : ∃ j, i = j + 1 := ⟨i - 1, by omega⟩
    have kp : ∀ z : UpW W7.drew, z.w.cell? ⟨b, off + j * 2, none⟩ = some (.int .i64 last) := fun z => cell_up (HPV.out j rfl).1 (Up.trans U7.out (hz.out z))
    have ei : IntKind.i64.wrap (j : Int) = (j : Int) := IntWalk.i64_in _ (by have := HI64.out; omega)
    have ej : IntKind.i64.wrap ((j : Int) + 1 - 1) = (j : Int) := by rw [show (j : Int) + 1 - 1 = (j : Int) by omega]; exact ei
    have hjm : j < m := by omega
    have HBD := Lib.hid (HBAD.out (decide (x.1 ≤ last)) (fun h => absurd h hi0) (fun _ => rfl))
    clear HBAD hi0 HPV
    cases le : decide (x.1 ≤ last)
    case true =>
      rw [le] at HBD
      have hv : V = false := by rw [HV3.out, HST.out, HBD.out]; simp
      subst hv
      clear HV3 HST
      refine wp_region_up_k (by kernel_rfl) (by kernel_rfl) ?_
      intro R HRR
      have HRR' := Lib.hid HRR
      clear HRR
      repeat (first | ((with_reducible show wpQuiet _ _ _ _ (Oper.mk (some 51) _ _ _ _ _ :: _) _); with_reducible refine wpQuiet_step (fun K hK => ?_); go_simp; apply Exists.intro; refine ⟨fun _ => ?_, hK _ ?_⟩; (go_at_call 52; with_reducible exact Calls.quiet_up (C1.out _)); clear hK K) | ((with_reducible show wpQuiet _ _ _ _ (Oper.mk (some 72) _ _ _ _ _ :: _) _); with_reducible refine wpQuiet_step (fun K hK => ?_); go_simp; apply Exists.intro; refine ⟨fun _ => ?_, hK _ ?_⟩; (go_at_call 52; with_reducible exact Calls.quiet_up (C3.out _)); clear hK K) | go_big_quiet_skip | (with_reducible refine wpQuiet_step (fun K hK => ?_); go_simp; with_reducible refine hK _ ?_; clear hK K))
      refine wpQuiet_nil ?_
      refine HRR'.out _ ?_
      rintro w4 ⟨z, hz4⟩
      have U4 : Hid (Up W5 w4) := by show Up _ _; rw [hz4]; exact Up.trans HU.out (Up.trans U7.out (hz.out z))
      clear hz4 HRR' hz C1 C3 X7 U7
      go_wp2_with fail
      go_ret
      exact ⟨rfl, Up.trans U5.out U4.out⟩
    rw [le] at HBD
    cases b3
    case false =>
      have hv : V = false := by rw [HV3.out, HST.out, HBD.out]; simp
      subst hv
      clear HV3 HST
      refine wp_region_up_k (by kernel_rfl) (by kernel_rfl) ?_
      intro R HRR
      have HRR' := Lib.hid HRR
      clear HRR
      repeat (first | ((with_reducible show wpQuiet _ _ _ _ (Oper.mk (some 51) _ _ _ _ _ :: _) _); with_reducible refine wpQuiet_step (fun K hK => ?_); go_simp; apply Exists.intro; refine ⟨fun _ => ?_, hK _ ?_⟩; (go_at_call 52; with_reducible exact Calls.quiet_up (C1.out _)); clear hK K) | ((with_reducible show wpQuiet _ _ _ _ (Oper.mk (some 72) _ _ _ _ _ :: _) _); with_reducible refine wpQuiet_step (fun K hK => ?_); go_simp; apply Exists.intro; refine ⟨fun _ => ?_, hK _ ?_⟩; (go_at_call 52; with_reducible exact Calls.quiet_up (C3.out _)); clear hK K) | go_big_quiet_skip | (with_reducible refine wpQuiet_step (fun K hK => ?_); go_simp; with_reducible refine hK _ ?_; clear hK K))
      refine wpQuiet_nil ?_
      refine HRR'.out _ ?_
      rintro w4 ⟨z, hz4⟩
      have U4 : Hid (Up W5 w4) := by show Up _ _; rw [hz4]; exact Up.trans HU.out (Up.trans U7.out (hz.out z))
      clear hz4 HRR' hz C1 C3 X7 U7
      go_wp2_with fail
      go_ret
      exact ⟨rfl, Up.trans U5.out U4.out⟩
    cases b4
    case true =>
      have hv : V = false := by rw [HV3.out, HST.out, HBD.out]; simp
      subst hv
      clear HV3 HST
      refine wp_region_up_k (by kernel_rfl) (by kernel_rfl) ?_
      intro R HRR
      have HRR' := Lib.hid HRR
      clear HRR
      repeat (first | ((with_reducible show wpQuiet _ _ _ _ (Oper.mk (some 51) _ _ _ _ _ :: _) _); with_reducible refine wpQuiet_step (fun K hK => ?_); go_simp; apply Exists.intro; refine ⟨fun _ => ?_, hK _ ?_⟩; (go_at_call 52; with_reducible exact Calls.quiet_up (C1.out _)); clear hK K) | ((with_reducible show wpQuiet _ _ _ _ (Oper.mk (some 72) _ _ _ _ _ :: _) _); with_reducible refine wpQuiet_step (fun K hK => ?_); go_simp; apply Exists.intro; refine ⟨fun _ => ?_, hK _ ?_⟩; (go_at_call 52; with_reducible exact Calls.quiet_up (C3.out _)); clear hK K) | go_big_quiet_skip | (with_reducible refine wpQuiet_step (fun K hK => ?_); go_simp; with_reducible refine hK _ ?_; clear hK K))
      refine wpQuiet_nil ?_
      refine HRR'.out _ ?_
      rintro w4 ⟨z, hz4⟩
      have U4 : Hid (Up W5 w4) := by show Up _ _; rw [hz4]; exact Up.trans HU.out (Up.trans U7.out (hz.out z))
      clear hz4 HRR' hz C1 C3 X7 U7
      go_wp2_with fail
      go_ret
      exact ⟨rfl, Up.trans U5.out U4.out⟩
    have HG : Hid (lotsB (-1) o.lots = lotsB x.1 (o.lots.drop (j + 1 + 1))) := by show _ = _; rw [HBE.out, HST.out, HBD.out]; simp
    clear HV3 HST HBD
    refine wp_region_up_k (by kernel_rfl) (by kernel_rfl) ?_
    intro R HRR
    have HRR' := Lib.hid HRR
    clear HRR
    repeat (first | ((with_reducible show wpQuiet _ _ _ _ (Oper.mk (some 51) _ _ _ _ _ :: _) _); with_reducible refine wpQuiet_step (fun K hK => ?_); go_simp; apply Exists.intro; refine ⟨fun _ => ?_, hK _ ?_⟩; (go_at_call 52; with_reducible exact Calls.quiet_up (C1.out _)); clear hK K) | ((with_reducible show wpQuiet _ _ _ _ (Oper.mk (some 72) _ _ _ _ _ :: _) _); with_reducible refine wpQuiet_step (fun K hK => ?_); go_simp; apply Exists.intro; refine ⟨fun _ => ?_, hK _ ?_⟩; (go_at_call 52; with_reducible exact Calls.quiet_up (C3.out _)); clear hK K) | go_big_quiet_skip | (with_reducible refine wpQuiet_step (fun K hK => ?_); go_simp; with_reducible refine hK _ ?_; clear hK K))
    refine wpQuiet_nil ?_
    refine HRR'.out _ ?_
    rintro w4 ⟨z, hz4⟩
    have U4 : Hid (Up W5 w4) := by show Up _ _; rw [hz4]; exact Up.trans HU.out (Up.trans U7.out (hz.out z))
    clear hz4 HRR' hz C1 C3 X7 U7
    go_wp2_with fail
    exact ⟨⟨j + 1 + 1, x.1, by omega, by go_num, HW1.out, fun h => by omega, fun k hk h => ⟨HNX.out k hk h, HW0.out⟩, HG, U4⟩, by simp [intOf]; omega⟩

end Go.Proofs.YtmifpokafaiebaaDoor
