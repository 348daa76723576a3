/- The walk of acequialaw10.GroupSquares: for every int it returns true and turns nothing that was there. -/
import Derived.Test.YtkdonlhclfbanaaSane10
namespace Go.Proofs.Ytkdonlhclfbanaa
open Go.RowKit Go.Shelf

theorem tmod_split {x r Q : Int} (hQ : 0 < Q) (h : x.tmod Q = r) : -Q < r ∧ r < Q ∧ r % Q = x % Q ∧ (0 ≤ x → r = x % Q) := by
  have h1 := Int.mul_tdiv_add_tmod x Q
  have h2 := Int.tmod_lt_of_pos x hQ
  have h3 := Int.lt_tmod_of_pos x hQ
  rw [h] at h1 h2 h3
  refine ⟨h3, h2, ?_, fun hx => by rw [← h]; exact Int.tmod_eq_emod_of_nonneg hx⟩
  conv => rhs; rw [← h1]
  simp

theorem elz_sq {n : Int} (h1 : 1 ≤ n) (h2 : n < 2147483579) : elz (n * n % 2147483579) = true := by
  obtain ⟨x, rfl⟩ := Int.eq_ofNat_of_zero_le (show 0 ≤ n by omega)
  have e : ((x : Int) * x % 2147483579) = ((x * x % 2147483579 : Nat) : Int) := by simp
  rw [e, elz_nat]; exact Sq.el_sq (by omega) (by omega)

theorem elz_pz {a : Int} (h : elz a = true) (n : Int) : elz (Sq.pz a.toNat n : Nat) = true := by
  rw [elz_nat]; exact Sq.el_pz h n

theorem pz_root {n : Int} (h : elz n = true) : ((Sq.pz (Sq.pz n.toNat 536870895) 2 : Nat) : Int) = n := by
  have hr := elz_range h
  have h' : Sq.el n.toNat = true := h
  have := Sq.el_root h'
  have e2 : Sq.pz (Sq.pz n.toNat 536870895) 2 = Sq.E (Sq.E n.toNat 536870895) 2 := by
    rw [Sq.pz_E, Sq.pz_E]; rfl
  rw [e2, this]; omega

set_option maxRecDepth 100000 in
set_option maxHeartbeats 1000000 in
theorem GroupSquares_walk (x : Int) (w : World) (wx1 : -9223372036854775808 ≤ x) (wx2 : x ≤ 9223372036854775807) :
    Calls Try.prog 6 #[.int .i64 x] w fun e w' => e = .returned (.bool true) ∧ Below w.heap.size w w' := by
  obtain ⟨r, hr⟩ : ∃ r, x.tmod 2147483579 = r := ⟨_, rfl⟩
  obtain ⟨l1, l2, l3, l4⟩ := tmod_split (by omega) hr
  obtain ⟨n, hn⟩ : ∃ n, n = if r < 0 then r + 2147483579 else r := ⟨_, rfl⟩
  by_cases h0 : n = 0
  · have hr0 : r = 0 := by split at hn <;> omega
    subst hr0
    clear l1 l2 l3 l4 hn h0
    have e4 : elz (-4) = false := elz_low (by omega)
    have E4 := Lib.hid e4
    clear e4
    go_enter Try.func6, Try.ntmps6
    go_wp2_with fail
    refine (sane_calls _).mono ?_
    rintro e w1 ⟨rfl, b1⟩
    go_wp2_with fail
    refine (valid_no _ el0).mono ?_
    rintro e w5 ⟨rfl, rfl⟩
    go_wp2_with fail
    refine (valid_no _ elP).mono ?_
    rintro e w5 ⟨rfl, rfl⟩
    go_wp2_with fail
    refine (valid_no _ E4.out).mono ?_
    rintro e w5 ⟨rfl, rfl⟩
    go_wp2_with fail
    go_ret
    exact ⟨rfl, b1⟩
  · have hn1 : 1 ≤ n ∧ n < 2147483579 := by split at hn <;> omega
    obtain ⟨n1, n2⟩ := hn1
    have N1 := Lib.hid (elz_neg n1 n2)
    have N2 := Lib.hid (elz_sq n1 n2)
    have hm := mul_bound (P := 2147483579) (a := n) (b := n) (by omega) (by omega) (by omega) (by omega)
    have e1 : wrap64 (n * n) = n * n := wrap64_id (by omega) (by omega)
    have e2 : (n * n).tmod 2147483579 = n * n % 2147483579 := tmod_pos hm.1
    clear hm
    -- n ≠ x: x is no element
    have hxn : n = x ∨ ((n == x) = false ∧ elz x = false) := by
      by_cases e : n = x
      · exact .inl e
      · refine .inr ⟨by simpa using e, ?_⟩
        rcases Int.lt_or_le x 1 with h | h
        · exact elz_low h
        · rcases Int.lt_or_le x 2147483579 with h' | h'
          · exfalso
            have := l4 (by omega)
            split at hn <;> omega
          · exact elz_high h'
    have hrn : (r < 0 ∧ r = n - 2147483579) ∨ (0 ≤ r ∧ n = r) := by split at hn <;> omega
    clear hn h0 l1 l2 l3 l4
    have V0 : Hid (elz (2147483579 - n) = !elz n) := N1
    rcases hrn with ⟨hneg, rfl⟩ | ⟨hneg, rfl⟩
    · have hd : decide (n - 2147483579 < 0) = true := by simpa using hneg
      have hn0 : (n == 0) = false := by simp; omega
      cases hv : elz n with
      | true =>
        have V1 := Lib.hid fun w => valid_yes w hv
        have V2 : Hid (∀ w, Calls Try.prog 13 #[.int .i64 (2147483579 - n)] w fun e w' => e = .returned (.bool false) ∧ w = w') := fun w => valid_no w (by rw [V0.out, hv]; rfl)
        have V3 := Lib.hid fun w => valid_yes w N2.out
        have P1 := Lib.hid fun w => pow_law 536870895 w hv
        have P2 := Lib.hid fun w => pow_law 2 w (elz_pz hv 536870895)
        have P3 : Hid (((Sq.pz ((Sq.pz n.toNat 536870895 : Nat) : Int).toNat 2 : Nat) : Int) = n) := pz_root hv
        rcases hxn with rfl | ⟨hne, hxv⟩
        · clear hv N1 N2 V0
          go_enter Try.func6, Try.ntmps6
          go_wp2_with fail
          refine (sane_calls _).mono ?_
          rintro e w1 ⟨rfl, b1⟩
          go_wp2_with fail
          refine (V1.out _).mono ?_
          rintro e w5 ⟨rfl, rfl⟩
          go_wp2_with fail
          refine (V2.out _).mono ?_
          rintro e w5 ⟨rfl, rfl⟩
          go_wp2_with fail
          refine (V3.out _).mono ?_
          rintro e w5 ⟨rfl, rfl⟩
          go_wp2_with fail
          refine (V1.out _).mono ?_
          rintro e w5 ⟨rfl, rfl⟩
          go_wp2_with fail
          refine (P1.out _).mono ?_
          rintro e w2 ⟨rfl, b2⟩
          go_wp2_with fail
          refine (P2.out _).mono ?_
          rintro e w3 ⟨rfl, b3⟩
          rw [P3.out]
          go_wp2_with fail
          go_ret
          exact ⟨rfl, (b1.trans (b2.mono b1.size)).trans (b3.mono (by have := b1.size; have := b2.size; omega))⟩
        · have hne2 : (n != x) = true := by rw [bne, hne]; rfl
          have V4 := Lib.hid fun w => valid_no w hxv
          clear hv N1 N2 V0 hxv
          go_enter Try.func6, Try.ntmps6
          go_wp2_with fail
          refine (sane_calls _).mono ?_
          rintro e w1 ⟨rfl, b1⟩
          go_wp2_with fail
          refine (V1.out _).mono ?_
          rintro e w5 ⟨rfl, rfl⟩
          go_wp2_with fail
          refine (V2.out _).mono ?_
          rintro e w5 ⟨rfl, rfl⟩
          go_wp2_with fail
          refine (V3.out _).mono ?_
          rintro e w5 ⟨rfl, rfl⟩
          go_wp2_with fail
          refine (V4.out _).mono ?_
          rintro e w5 ⟨rfl, rfl⟩
          go_wp2_with fail
          refine (V1.out _).mono ?_
          rintro e w5 ⟨rfl, rfl⟩
          go_wp2_with fail
          refine (P1.out _).mono ?_
          rintro e w2 ⟨rfl, b2⟩
          go_wp2_with fail
          refine (P2.out _).mono ?_
          rintro e w3 ⟨rfl, b3⟩
          rw [P3.out]
          go_wp2_with fail
          go_ret
          exact ⟨rfl, (b1.trans (b2.mono b1.size)).trans (b3.mono (by have := b1.size; have := b2.size; omega))⟩
      | false =>
        have V1 := Lib.hid fun w => valid_no w hv
        have V2 : Hid (∀ w, Calls Try.prog 13 #[.int .i64 (2147483579 - n)] w fun e w' => e = .returned (.bool true) ∧ w = w') := fun w => valid_yes w (by rw [V0.out, hv]; rfl)
        have V3 := Lib.hid fun w => valid_yes w N2.out
        rcases hxn with rfl | ⟨hne, hxv⟩
        · clear hv N1 N2 V0
          go_enter Try.func6, Try.ntmps6
          go_wp2_with fail
          refine (sane_calls _).mono ?_
          rintro e w1 ⟨rfl, b1⟩
          go_wp2_with fail
          refine (V1.out _).mono ?_
          rintro e w5 ⟨rfl, rfl⟩
          go_wp2_with fail
          refine (V2.out _).mono ?_
          rintro e w5 ⟨rfl, rfl⟩
          go_wp2_with fail
          refine (V3.out _).mono ?_
          rintro e w5 ⟨rfl, rfl⟩
          go_wp2_with fail
          refine (V1.out _).mono ?_
          rintro e w5 ⟨rfl, rfl⟩
          go_wp2_with fail
          go_ret
          exact ⟨rfl, b1⟩
        · have hne2 : (n != x) = true := by rw [bne, hne]; rfl
          have V4 := Lib.hid fun w => valid_no w hxv
          clear hv N1 N2 V0 hxv
          go_enter Try.func6, Try.ntmps6
          go_wp2_with fail
          refine (sane_calls _).mono ?_
          rintro e w1 ⟨rfl, b1⟩
          go_wp2_with fail
          refine (V1.out _).mono ?_
          rintro e w5 ⟨rfl, rfl⟩
          go_wp2_with fail
          refine (V2.out _).mono ?_
          rintro e w5 ⟨rfl, rfl⟩
          go_wp2_with fail
          refine (V3.out _).mono ?_
          rintro e w5 ⟨rfl, rfl⟩
          go_wp2_with fail
          refine (V4.out _).mono ?_
          rintro e w5 ⟨rfl, rfl⟩
          go_wp2_with fail
          refine (V1.out _).mono ?_
          rintro e w5 ⟨rfl, rfl⟩
          go_wp2_with fail
          go_ret
          exact ⟨rfl, b1⟩
    · have hd : decide (n < 0) = false := by simpa using hneg
      have hn0 : (n == 0) = false := by simp; omega
      cases hv : elz n with
      | true =>
        have V1 := Lib.hid fun w => valid_yes w hv
        have V2 : Hid (∀ w, Calls Try.prog 13 #[.int .i64 (2147483579 - n)] w fun e w' => e = .returned (.bool false) ∧ w = w') := fun w => valid_no w (by rw [V0.out, hv]; rfl)
        have V3 := Lib.hid fun w => valid_yes w N2.out
        have P1 := Lib.hid fun w => pow_law 536870895 w hv
        have P2 := Lib.hid fun w => pow_law 2 w (elz_pz hv 536870895)
        have P3 : Hid (((Sq.pz ((Sq.pz n.toNat 536870895 : Nat) : Int).toNat 2 : Nat) : Int) = n) := pz_root hv
        rcases hxn with rfl | ⟨hne, hxv⟩
        · clear hv N1 N2 V0
          go_enter Try.func6, Try.ntmps6
          go_wp2_with fail
          refine (sane_calls _).mono ?_
          rintro e w1 ⟨rfl, b1⟩
          go_wp2_with fail
          refine (V1.out _).mono ?_
          rintro e w5 ⟨rfl, rfl⟩
          go_wp2_with fail
          refine (V2.out _).mono ?_
          rintro e w5 ⟨rfl, rfl⟩
          go_wp2_with fail
          refine (V3.out _).mono ?_
          rintro e w5 ⟨rfl, rfl⟩
          go_wp2_with fail
          refine (V1.out _).mono ?_
          rintro e w5 ⟨rfl, rfl⟩
          go_wp2_with fail
          refine (P1.out _).mono ?_
          rintro e w2 ⟨rfl, b2⟩
          go_wp2_with fail
          refine (P2.out _).mono ?_
          rintro e w3 ⟨rfl, b3⟩
          rw [P3.out]
          go_wp2_with fail
          go_ret
          exact ⟨rfl, (b1.trans (b2.mono b1.size)).trans (b3.mono (by have := b1.size; have := b2.size; omega))⟩
        · have hne2 : (n != x) = true := by rw [bne, hne]; rfl
          have V4 := Lib.hid fun w => valid_no w hxv
          clear hv N1 N2 V0 hxv
          go_enter Try.func6, Try.ntmps6
          go_wp2_with fail
          refine (sane_calls _).mono ?_
          rintro e w1 ⟨rfl, b1⟩
          go_wp2_with fail
          refine (V1.out _).mono ?_
          rintro e w5 ⟨rfl, rfl⟩
          go_wp2_with fail
          refine (V2.out _).mono ?_
          rintro e w5 ⟨rfl, rfl⟩
          go_wp2_with fail
          refine (V3.out _).mono ?_
          rintro e w5 ⟨rfl, rfl⟩
          go_wp2_with fail
          refine (V4.out _).mono ?_
          rintro e w5 ⟨rfl, rfl⟩
          go_wp2_with fail
          refine (V1.out _).mono ?_
          rintro e w5 ⟨rfl, rfl⟩
          go_wp2_with fail
          refine (P1.out _).mono ?_
          rintro e w2 ⟨rfl, b2⟩
          go_wp2_with fail
          refine (P2.out _).mono ?_
          rintro e w3 ⟨rfl, b3⟩
          rw [P3.out]
          go_wp2_with fail
          go_ret
          exact ⟨rfl, (b1.trans (b2.mono b1.size)).trans (b3.mono (by have := b1.size; have := b2.size; omega))⟩
      | false =>
        have V1 := Lib.hid fun w => valid_no w hv
        have V2 : Hid (∀ w, Calls Try.prog 13 #[.int .i64 (2147483579 - n)] w fun e w' => e = .returned (.bool true) ∧ w = w') := fun w => valid_yes w (by rw [V0.out, hv]; rfl)
        have V3 := Lib.hid fun w => valid_yes w N2.out
        rcases hxn with rfl | ⟨hne, hxv⟩
        · clear hv N1 N2 V0
          go_enter Try.func6, Try.ntmps6
          go_wp2_with fail
          refine (sane_calls _).mono ?_
          rintro e w1 ⟨rfl, b1⟩
          go_wp2_with fail
          refine (V1.out _).mono ?_
          rintro e w5 ⟨rfl, rfl⟩
          go_wp2_with fail
          refine (V2.out _).mono ?_
          rintro e w5 ⟨rfl, rfl⟩
          go_wp2_with fail
          refine (V3.out _).mono ?_
          rintro e w5 ⟨rfl, rfl⟩
          go_wp2_with fail
          refine (V1.out _).mono ?_
          rintro e w5 ⟨rfl, rfl⟩
          go_wp2_with fail
          go_ret
          exact ⟨rfl, b1⟩
        · have hne2 : (n != x) = true := by rw [bne, hne]; rfl
          have V4 := Lib.hid fun w => valid_no w hxv
          clear hv N1 N2 V0 hxv
          go_enter Try.func6, Try.ntmps6
          go_wp2_with fail
          refine (sane_calls _).mono ?_
          rintro e w1 ⟨rfl, b1⟩
          go_wp2_with fail
          refine (V1.out _).mono ?_
          rintro e w5 ⟨rfl, rfl⟩
          go_wp2_with fail
          refine (V2.out _).mono ?_
          rintro e w5 ⟨rfl, rfl⟩
          go_wp2_with fail
          refine (V3.out _).mono ?_
          rintro e w5 ⟨rfl, rfl⟩
          go_wp2_with fail
          refine (V4.out _).mono ?_
          rintro e w5 ⟨rfl, rfl⟩
          go_wp2_with fail
          refine (V1.out _).mono ?_
          rintro e w5 ⟨rfl, rfl⟩
          go_wp2_with fail
          go_ret
          exact ⟨rfl, b1⟩

end Go.Proofs.Ytkdonlhclfbanaa
