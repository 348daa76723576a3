/- The walks of the reference acequiaref10: power, exponent, Valid, Mul, Pow. -/
import Derived.Test.YthjglkpkeffmpaaDoorPow
namespace Go.Proofs.YthjglkpkeffmpaaDoor
open Go.RowKit Go.Shelf

/-- what holds between two rounds of power -/
structure PwInv (a n c b k : Nat) : Prop where
  lc : c < 2147483579
  lb : b < 2147483579
  lk : k < 2147483648
  eq : c * Sq.E b k % 2147483579 = Sq.E a n

theorem PwInv.start {a n : Nat} (ha : a < 2147483579) (hn : n < 2147483648) : PwInv a n 1 a n :=
  ⟨by omega, ha, hn, by rw [Nat.one_mul, Nat.mod_eq_of_lt (Sq.E_lt _ _)]⟩

theorem E_half (b k : Nat) : Sq.E b k = (if k % 2 = 1 then b else 1) * Sq.E (b * b % 2147483579) (k / 2) % 2147483579 := by
  have h2 : Sq.E b k = Sq.E b (2 * (k / 2) + k % 2) := by congr 1; omega
  rw [h2, Sq.E_add, Sq.E_mul, show Sq.E b 2 = b * b % 2147483579 by unfold Sq.E; rw [Nat.pow_two]]
  rcases Nat.mod_two_eq_zero_or_one k with e | e <;> rw [e]
  · rw [Sq.E_zero]; simp
  · rw [if_pos rfl, Nat.mul_comm, show Sq.E b 1 = b % 2147483579 by unfold Sq.E; rw [Nat.pow_one], Nat.mod_mul_mod]

theorem PwInv.odd {a n c b k : Nat} (h : PwInv a n c b k) (hk : k % 2 = 1) : PwInv a n (c * b % 2147483579) (b * b % 2147483579) (k / 2) := by
  refine ⟨Nat.mod_lt _ (by omega), Nat.mod_lt _ (by omega), by have := h.lk; omega, ?_⟩
  rw [← h.eq, E_half b k, if_pos hk, Nat.mod_mul_mod, Nat.mul_mod_mod, Nat.mul_assoc]

theorem PwInv.even {a n c b k : Nat} (h : PwInv a n c b k) (hk : k % 2 = 0) : PwInv a n c (b * b % 2147483579) (k / 2) := by
  refine ⟨h.lc, Nat.mod_lt _ (by omega), by have := h.lk; omega, ?_⟩
  rw [← h.eq, E_half b k, if_neg (by omega), Nat.one_mul, Nat.mul_mod_mod]

theorem PwInv.done {a n c b : Nat} (h : PwInv a n c b 0) (hn : n < 2147483648) : c = Sq.pw a n := by
  have := h.eq
  rw [Sq.E_zero, Nat.mul_one, Nat.mod_eq_of_lt h.lc] at this
  rw [this, Sq.pw_E hn]

set_option maxHeartbeats 400000 in
theorem ref_power (a n : Nat) (w : World) (ha : a < 2147483579) (hn : n < 2147483648) :
    Calls Tryd.prog 43 #[.int .i64 a, .int .i64 n] w fun e w' => e = .returned (.int .i64 (Sq.pw a n : Nat)) ∧ w = w' := by
  go_enter Tryd.func43, Tryd.ntmps43
  go_wp2
  go_loop [0, 1, 5] (fun v0 v1 v3 => ∃ (b k c : Nat), v0 = .int .i64 b ∧ v1 = .int .i64 k ∧ v3 = .int .i64 c ∧ PwInv a n c b k) (fun _ v1 _ => (intOf v1).toNat)
  case atStart => exact ⟨a, n, 1, rfl, rfl, rfl, PwInv.start ha hn⟩
  case round =>
    obtain ⟨b, k, c, rfl, rfl, rfl, hI⟩ := hrel
    have hc := hI.lc
    have hb := hI.lb
    have hk := hI.lk
    have m1 := mul_bound (P := 2147483579) (a := c) (b := b) (by omega) (by omega) (by omega) (by omega)
    have m2 := mul_bound (P := 2147483579) (a := b) (b := b) (by omega) (by omega) (by omega) (by omega)
    have e1 : wrap64 ((c : Int) * b) = c * b := wrap64_id (by omega) (by omega)
    have e2 : ((c : Int) * b).tmod 2147483579 = c * b % 2147483579 := tmod_pos m1.1
    have e3 : wrap64 ((b : Int) * b) = b * b := wrap64_id (by omega) (by omega)
    have e4 : ((b : Int) * b).tmod 2147483579 = b * b % 2147483579 := tmod_pos m2.1
    clear m1 m2
    by_cases hk0 : k = 0
    · subst hk0
      have hdone := Lib.hid (hI.done hn)
      go_wp2
      go_ret
      rw [hdone.out]; exact ⟨rfl, rfl⟩
    · have hd : decide ((0 : Int) < k) = true := by simp; omega
      by_cases ho : k % 2 = 1
      · have q : ((k : Int) % 2 == 1) = true := by simp; omega
        go_wp2
        go_round
        case rel => exact ⟨b * b % 2147483579, k / 2, c * b % 2147483579, by simp, by go_num, by simp, hI.odd ho⟩
        case measure => simp [intOf]; omega
      · have q : ((k : Int) % 2 == 1) = false := by simp; omega
        go_wp2
        go_round
        case rel => exact ⟨b * b % 2147483579, k / 2, c, by simp, by go_num, rfl, hI.even (by omega)⟩
        case measure => simp [intOf]; omega

theorem ref_exponent (n : Int) (w : World) : Calls Tryd.prog 44 #[.int .i64 n] w fun e w' => e = .returned (.int .i64 (Sq.lx n : Nat)) ∧ w = w' := by
  obtain ⟨r, hr⟩ : ∃ r, n.tmod 1073741789 = r := ⟨_, rfl⟩
  have hl := least_num hr
  obtain ⟨l1, l2, l3⟩ := hl
  by_cases hn : r < 0
  · have hd : decide (r < 0) = true := by simpa using hn
    have E : Hid (((Sq.lx n : Nat) : Int) = r + 1073741789) := by rw [← l3]; show r % 1073741789 = _; omega
    clear l3
    go_enter Tryd.func44, Tryd.ntmps44
    go_wp2
    go_ret
    rw [E.out]; exact ⟨rfl, rfl⟩
  · have hd : decide (r < 0) = false := by simpa using hn
    have E : Hid (((Sq.lx n : Nat) : Int) = r) := by rw [← l3]; show r % 1073741789 = _; omega
    clear l3
    go_enter Tryd.func44, Tryd.ntmps44
    go_wp2
    go_ret
    rw [E.out]; exact ⟨rfl, rfl⟩

theorem ref_valid (x : Int) (w : World) : Calls Tryd.prog 32 #[.int .i64 x] w fun e w' => e = .returned (.bool (elz x)) ∧ w = w' := by
  by_cases h1 : x < 1
  · rw [elz_low h1]
    have hd1 : decide (1 ≤ x) = false := by simpa using h1
    go_enter Tryd.func32, Tryd.ntmps32
    go_wp2
    go_ret
    exact ⟨rfl, rfl⟩
  · by_cases h2 : 2147483579 ≤ x
    · rw [elz_high h2]
      have hd1 : decide (1 ≤ x) = true := by simp; omega
      have hd2 : decide (x < 2147483579) = false := by simpa using h2
      go_enter Tryd.func32, Tryd.ntmps32
      go_wp2
      go_ret
      exact ⟨rfl, rfl⟩
    · obtain ⟨n, rfl⟩ := Int.eq_ofNat_of_zero_le (show 0 ≤ x by omega)
      have E : elz (n : Int) = (((Sq.pw n 1073741789 : Nat) : Int) == 1) := by
        rw [elz_nat]
        unfold Sq.el
        have b1 : decide (1 ≤ n) = true := by simp; omega
        have b2 : decide (n < 2147483579) = true := by simp; omega
        rw [b1, b2, Bool.true_and, Bool.true_and]
        by_cases h : Sq.pw n 1073741789 = 1
        · rw [h]; rfl
        · rw [beq_eq_false_iff_ne.2 h, beq_eq_false_iff_ne.2 (by omega)]
      have P := Lib.hid fun w => ref_power n 1073741789 w (by omega) (by omega)
      rw [E]
      clear E
      generalize Sq.pw n 1073741789 = p at *
      have hd1 : decide ((1 : Int) ≤ n) = true := by simp; omega
      have hd2 : decide ((n : Int) < 2147483579) = true := by simp; omega
      go_enter Tryd.func32, Tryd.ntmps32
      go_wp2_with fail
      refine (P.out _).mono ?_
      rintro e w' ⟨rfl, rfl⟩
      go_wp2_with fail
      go_ret
      exact ⟨rfl, rfl⟩

theorem ref_valid_yes {x : Int} (w : World) (h : elz x = true) : Calls Tryd.prog 32 #[.int .i64 x] w fun e w' => e = .returned (.bool true) ∧ w = w' := by
  rw [← h]; exact ref_valid x w
theorem ref_valid_no {x : Int} (w : World) (h : elz x = false) : Calls Tryd.prog 32 #[.int .i64 x] w fun e w' => e = .returned (.bool false) ∧ w = w' := by
  rw [← h]; exact ref_valid x w

theorem ref_mul_yes {a b : Int} (w : World) (ha : elz a = true) (hb : elz b = true) :
    Calls Tryd.prog 45 #[.int .i64 a, .int .i64 b] w fun e w' => e = .returned (.tuple #[.int .i64 (a * b % 2147483579), .int .i64 0]) ∧ w = w' := by
  have ra := elz_range ha
  have rb := elz_range hb
  have hm := mul_bound (P := 2147483579) (a := a) (b := b) (by omega) (by omega) (by omega) (by omega)
  have e1 : wrap64 (a * b) = a * b := wrap64_id (by omega) (by omega)
  have e2 : (a * b).tmod 2147483579 = a * b % 2147483579 := tmod_pos hm.1
  have H1 := Lib.hid fun w => ref_valid_yes w ha
  have H2 := Lib.hid fun w => ref_valid_yes w hb
  clear ra rb hm ha hb
  go_enter Tryd.func45, Tryd.ntmps45
  go_wp2_with fail
  refine (H1.out _).mono ?_
  rintro e w' ⟨rfl, rfl⟩
  go_wp2_with fail
  refine (H2.out _).mono ?_
  rintro e w' ⟨rfl, rfl⟩
  go_wp2_with fail
  go_ret2
  exact ⟨rfl, rfl⟩

theorem ref_mul_no {a b : Int} (w : World) (h : (elz a && elz b) = false) :
    Calls Tryd.prog 45 #[.int .i64 a, .int .i64 b] w fun e w' => e = .returned (.tuple #[.int .i64 0, .int .i64 100]) ∧ w = w' := by
  cases ha : elz a with
  | false =>
    have H1 := Lib.hid fun w => ref_valid_no w ha
    clear ha h
    go_enter Tryd.func45, Tryd.ntmps45
    go_wp2_with fail
    refine (H1.out _).mono ?_
    rintro e w' ⟨rfl, rfl⟩
    go_wp2_with fail
    go_ret2
    exact ⟨rfl, rfl⟩
  | true =>
    have hb : elz b = false := by simpa [ha] using h
    have H1 := Lib.hid fun w => ref_valid_yes w ha
    have H2 := Lib.hid fun w => ref_valid_no w hb
    clear ha hb h
    go_enter Tryd.func45, Tryd.ntmps45
    go_wp2_with fail
    refine (H1.out _).mono ?_
    rintro e w' ⟨rfl, rfl⟩
    go_wp2_with fail
    refine (H2.out _).mono ?_
    rintro e w' ⟨rfl, rfl⟩
    go_wp2_with fail
    go_ret2
    exact ⟨rfl, rfl⟩

theorem ref_pow_yes {a n : Int} (w : World) (h : elz a = true) :
    Calls Tryd.prog 28 #[.int .i64 a, .int .i64 n] w fun e w' => e = .returned (.tuple #[.int .i64 (Sq.pz a.toNat n : Nat), .int .i64 0]) ∧ w = w' := by
  have hr := elz_range h
  have hl := Sq.lx_lt n
  have H1 := Lib.hid fun w => ref_valid_yes w h
  obtain ⟨x, rfl⟩ := Int.eq_ofNat_of_zero_le (show 0 ≤ a by omega)
  have H2 := Lib.hid fun w => ref_exponent n w
  have H3 : Hid (∀ w, Calls Tryd.prog 43 #[.int .i64 x, .int .i64 (Sq.lx n : Nat)] w fun e w' => e = .returned (.int .i64 (Sq.pz x n : Nat)) ∧ w = w') := fun w => ref_power x (Sq.lx n) w (by omega) (by omega)
  rw [Int.toNat_natCast]
  generalize Sq.pz x n = p at *
  generalize Sq.lx n = l at *
  clear h hr hl
  go_enter Tryd.func28, Tryd.ntmps28
  go_wp2_with fail
  refine (H1.out _).mono ?_
  rintro e w' ⟨rfl, rfl⟩
  go_wp2_with fail
  refine (H2.out _).mono ?_
  rintro e w' ⟨rfl, rfl⟩
  go_wp2_with fail
  refine (H3.out _).mono ?_
  rintro e w' ⟨rfl, rfl⟩
  go_wp2_with fail
  go_ret2
  exact ⟨rfl, rfl⟩

theorem ref_pow_no {a n : Int} (w : World) (h : elz a = false) :
    Calls Tryd.prog 28 #[.int .i64 a, .int .i64 n] w fun e w' => e = .returned (.tuple #[.int .i64 0, .int .i64 100]) ∧ w = w' := by
  have H1 := Lib.hid fun w => ref_valid_no w h
  clear h
  go_enter Tryd.func28, Tryd.ntmps28
  go_wp2_with fail
  refine (H1.out _).mono ?_
  rintro e w' ⟨rfl, rfl⟩
  go_wp2_with fail
  go_ret2
  exact ⟨rfl, rfl⟩

end Go.Proofs.YthjglkpkeffmpaaDoor
