/- THE WALKS OF PACKAGE group: what Valid, Mul, Element, Number return, at every int. -/
import Derived.Test.YthjglkpkeffmpaaDoorProg
import Derived.Test.YthjglkpkeffmpaaDoorSq
import Derived.WalkKit
import Derived.WalkSpells
import Derived.WalkLawsBesides
import Derived.Lib.Hide
namespace Go.Proofs.YthjglkpkeffmpaaDoor
open Go.RowKit

/-- is an int an element? -/
def elz (x : Int) : Bool := Sq.el x.toNat

theorem elz_nat (x : Nat) : elz (x : Int) = Sq.el x := by unfold elz; rw [Int.toNat_natCast]
theorem elz_low {x : Int} (h : x < 1) : elz x = false := by
  unfold elz; rw [show x.toNat = 0 by omega]; rfl
theorem elz_high {x : Int} (h : 2147483579 ≤ x) : elz x = false := by
  unfold elz; rw [← Bool.not_eq_true, Sq.el_iff]; omega
theorem elz_range {x : Int} (h : elz x = true) : 1 ≤ x ∧ x < 2147483579 := by
  unfold elz at h
  have := Sq.el_ne h
  omega

set_option maxHeartbeats 400000 in
theorem valid_in (x : Nat) (w : World) (h1 : 1 ≤ x) (h2 : x < 2147483579) : Calls Tryd.prog 13 #[.int .i64 x] w fun e w' => e = .returned (.bool (Sq.S x 2147483579)) ∧ w = w' := by
  have hd1 : decide ((x : Int) < 1) = false := by simp; omega
  have hd2 : decide (2147483579 ≤ (x : Int)) = false := by simp; omega
  go_enter Tryd.func13, Tryd.ntmps13
  go_wp2
  go_step3
  go_wp2
  go_step3
  go_wp2
  go_loop [0, 3, 4] (fun v0 v3 v4 => ∃ (y n : Nat) (b : Bool), v0 = .int .i64 y ∧ v3 = .int .i64 n ∧ v4 = .bool b ∧ Sq.Inv x y n b) (fun v0 _ _ => (intOf v0).toNat)
  case atStart => exact ⟨x, 2147483579, true, rfl, rfl, rfl, Sq.Inv.start h1 h2⟩
  case round =>
    obtain ⟨y, n, b, rfl, rfl, rfl, hI⟩ := hrel
    clear hd1 hd2
    have hp := hI.pos
    have hl := hI.lt
    have hn1 := hI.npos
    have hn2 := hI.nle
    by_cases hy : 1 < y
    · go_wp2
      go_loop [0, 4] (fun v0 v4 => ∃ (z : Nat) (c : Bool), v0 = .int .i64 z ∧ z ≤ y ∧ v4 = .bool c ∧ Sq.Inv x z n c) (fun v0 _ => (intOf v0).toNat)
      case atStart => exact ⟨y, b, rfl, Nat.le_refl _, rfl, hI⟩
      case round =>
        obtain ⟨z, c, rfl, hz, rfl, hI2⟩ := hrel
        have hzp := hI2.pos
        by_cases hev : z % 2 = 0
        · have q0 : ((z : Int) % 2 == 0) = true := by simp; omega
          by_cases h38 : n % 8 = 3
          · have q1 : ((n : Int) % 8 == 3) = true := by simp; omega
            go_wp2
            all_goals
              go_round
              case rel => exact ⟨z / 2, !c, by go_num, by omega, rfl, hI2.half1 hev (.inl h38)⟩
              case measure => simp [intOf]; omega
          · have q1 : ((n : Int) % 8 == 3) = false := by simp; omega
            by_cases h58 : n % 8 = 5
            · have q2 : ((n : Int) % 8 == 5) = true := by simp; omega
              go_wp2
              all_goals
                go_round
                case rel => exact ⟨z / 2, !c, by go_num, by omega, rfl, hI2.half1 hev (.inr h58)⟩
                case measure => simp [intOf]; omega
            · have q2 : ((n : Int) % 8 == 5) = false := by simp; omega
              go_wp2
              all_goals
                go_round
                case rel => exact ⟨z / 2, c, by go_num, by omega, rfl, hI2.half2 hev h38 h58⟩
                case measure => simp [intOf]; omega
        · have hodd : z % 2 = 1 := by omega
          have q0 : ((z : Int) % 2 == 0) = false := by simp; omega
          by_cases hz1 : z = 1
          · have hdone := Lib.hid (hI2.done hz1)
            subst hz1
            go_wp2
            go_ret
            rw [hdone.out]; exact ⟨rfl, rfl⟩
          · have q3 : ((z : Int) == 1) = false := by simp; omega
            by_cases h34 : z % 4 = 3
            · have q1 : ((z : Int) % 4 == 3) = true := by simp; omega
              by_cases h34n : n % 4 = 3
              · have q2 : ((n : Int) % 4 == 3) = true := by simp; omega
                go_wp2
                all_goals
                  go_round
                  case rel => exact ⟨n % z, z, !c, by go_num, rfl, rfl, hI2.turn1 hodd hz1 ⟨h34, h34n⟩⟩
                  case measure => have := Nat.mod_lt n (show 0 < z by omega); simp [intOf]; omega
              · have q2 : ((n : Int) % 4 == 3) = false := by simp; omega
                go_wp2
                all_goals
                  go_round
                  case rel => exact ⟨n % z, z, c, by go_num, rfl, rfl, hI2.turn2 hodd hz1 (.inr h34n)⟩
                  case measure => have := Nat.mod_lt n (show 0 < z by omega); simp [intOf]; omega
            · have q1 : ((z : Int) % 4 == 3) = false := by simp; omega
              go_wp2
              all_goals
                go_round
                case rel => exact ⟨n % z, z, c, by go_num, rfl, rfl, hI2.turn2 hodd hz1 (.inl h34)⟩
                case measure => have := Nat.mod_lt n (show 0 < z by omega); simp [intOf]; omega
    · have hy1 : y = 1 := by omega
      have hdone := Lib.hid (hI.done hy1)
      subst hy1
      go_wp2
      go_ret
      rw [hdone.out]; exact ⟨rfl, rfl⟩

/-- **Valid, at every int.** -/
theorem valid_any (x : Int) (w : World) : Calls Tryd.prog 13 #[.int .i64 x] w fun e w' => e = .returned (.bool (elz x)) ∧ w = w' := by
  by_cases h1 : x < 1
  · rw [elz_low h1]
    have hd1 : decide (x < 1) = true := by simpa using h1
    go_enter Tryd.func13, Tryd.ntmps13
    go_wp2
    go_step3
    go_wp2
    rw [Exit.noGoto_ret]
    go_ret
    exact ⟨rfl, rfl⟩
  · by_cases h2 : 2147483579 ≤ x
    · rw [elz_high h2]
      have hd1 : decide (x < 1) = false := by simpa using h1
      have hd2 : decide (2147483579 ≤ x) = true := by simpa using h2
      go_enter Tryd.func13, Tryd.ntmps13
      go_wp2
      go_step3
      go_wp2
      rw [Exit.noGoto_ret]
      go_ret
      exact ⟨rfl, rfl⟩
    · obtain ⟨n, rfl⟩ := Int.eq_ofNat_of_zero_le (show 0 ≤ x by omega)
      rw [elz_nat, ← Sq.S_el (by omega) (by omega)]
      exact valid_in n w (by omega) (by omega)

theorem valid_yes {x : Int} (w : World) (h : elz x = true) : Calls Tryd.prog 13 #[.int .i64 x] w fun e w' => e = .returned (.bool true) ∧ w = w' := by
  rw [← h]; exact valid_any x w
theorem valid_no {x : Int} (w : World) (h : elz x = false) : Calls Tryd.prog 13 #[.int .i64 x] w fun e w' => e = .returned (.bool false) ∧ w = w' := by
  rw [← h]; exact valid_any x w

/-! ### Mul -/
theorem wrap64_id {x : Int} (h1 : -9223372036854775808 ≤ x) (h2 : x ≤ 9223372036854775807) : wrap64 x = x := by
  unfold wrap64; omega

theorem mul_bound {a b P : Int} (ha : 0 ≤ a) (ha' : a < P) (hb : 0 ≤ b) (hb' : b < P) : 0 ≤ a * b ∧ a * b ≤ (P - 1) * (P - 1) :=
  ⟨Int.mul_nonneg ha hb, Int.mul_le_mul (by omega) (by omega) hb (by omega)⟩

theorem tmod_pos {a b : Int} (ha : 0 ≤ a) : a.tmod b = a % b := Int.tmod_eq_emod_of_nonneg ha

theorem mul_yes {a b : Int} (w : World) (ha : elz a = true) (hb : elz b = true) :
    Calls Tryd.prog 31 #[.int .i64 a, .int .i64 b] w fun e w' => e = .returned (.tuple #[.int .i64 (a * b % 2147483579), .int .i64 0]) ∧ w = w' := by
  have ra := elz_range ha
  have rb := elz_range hb
  have hm := mul_bound (P := 2147483579) (a := a) (b := b) (by omega) (by omega) (by omega) (by omega)
  have e1 : wrap64 (a * b) = a * b := wrap64_id (by omega) (by omega)
  have e2 : (a * b).tmod 2147483579 = a * b % 2147483579 := tmod_pos hm.1
  have V1 := fun w => valid_yes w ha
  have V2 := fun w => valid_yes w hb
  have H1 := Lib.hid V1
  have H2 := Lib.hid V2
  clear V1 V2 ra rb hm
  go_enter Tryd.func31, Tryd.ntmps31
  go_wp2_with fail
  refine (H1.out _).mono ?_
  rintro e w' ⟨rfl, rfl⟩
  go_wp2_with fail
  refine (H2.out _).mono ?_
  rintro e w' ⟨rfl, rfl⟩
  go_wp2_with fail
  go_ret2
  exact ⟨rfl, rfl⟩

theorem mul_no {a b : Int} (w : World) (h : (elz a && elz b) = false) :
    Calls Tryd.prog 31 #[.int .i64 a, .int .i64 b] w fun e w' => e = .returned (.tuple #[.int .i64 0, .int .i64 100]) ∧ w = w' := by
  cases ha : elz a with
  | false =>
    have H1 := Lib.hid fun w => valid_no w ha
    clear ha h
    go_enter Tryd.func31, Tryd.ntmps31
    go_wp2_with fail
    refine (H1.out _).mono ?_
    rintro e w' ⟨rfl, rfl⟩
    go_wp2_with fail
    go_ret2
    exact ⟨rfl, rfl⟩
  | true =>
    have hb : elz b = false := by simpa [ha] using h
    have H1 := Lib.hid fun w => valid_yes w ha
    have H2 := Lib.hid fun w => valid_no w hb
    clear ha hb h
    go_enter Tryd.func31, Tryd.ntmps31
    go_wp2_with fail
    refine (H1.out _).mono ?_
    rintro e w' ⟨rfl, rfl⟩
    go_wp2_with fail
    refine (H2.out _).mono ?_
    rintro e w' ⟨rfl, rfl⟩
    go_wp2_with fail
    go_ret2
    exact ⟨rfl, rfl⟩

end Go.Proofs.YthjglkpkeffmpaaDoor
