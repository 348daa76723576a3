/- The walks of the reference acequiaref11: Mod, Times, Power, Quotient. -/
import Derived.Test.YthjglkpkeffmpaaDoorSgP
import Derived.Test.YthjglkpkeffmpaaDoorPow
import Derived.Sort.AtCallIn
namespace Go.Proofs.YthjglkpkeffmpaaDoor
open Go.RowKit Go.Shelf
set_option linter.unusedVariables false

theorem tmod_num {x r : Int} (h : x.tmod 1073741789 = r) : -1073741789 < r ∧ r < 1073741789 ∧ r % 1073741789 = x % 1073741789 := by
  subst h
  have h1 := Int.lt_tmod_of_pos x (show (0 : Int) < 1073741789 by omega)
  have h2 := Int.tmod_lt_of_pos x (show (0 : Int) < 1073741789 by omega)
  have h4 := Int.mul_tdiv_add_tmod x 1073741789
  generalize x.tdiv 1073741789 = q at h4
  generalize x.tmod 1073741789 = r at *
  omega

theorem mod11_calls (x : Int) (w : World) : Calls Tryd.prog 17 #[.int .i64 x] w fun e w' => e = .returned (.int .i64 (x % 1073741789)) ∧ w = w' := by
  obtain ⟨r, hr⟩ : ∃ r, x.tmod 1073741789 = r := ⟨_, rfl⟩
  obtain ⟨h1, h2, h3⟩ := tmod_num hr
  rw [← h3]
  clear h3
  by_cases h : r < 0
  · have e : r % 1073741789 = r + 1073741789 := by omega
    have e1 : wrap64 (r + 1073741789) = r + 1073741789 := wrap64_id (by omega) (by omega)
    rw [e]
    clear e
    go_enter Tryd.func17, Tryd.ntmps17
    go_wp2
    go_ret
    exact ⟨rfl, rfl⟩
  · have e : r % 1073741789 = r := by omega
    rw [e]
    clear e
    go_enter Tryd.func17, Tryd.ntmps17
    go_wp2
    go_ret
    exact ⟨rfl, rfl⟩

theorem times11_calls (a b : Int) (w : World) : Calls Tryd.prog 30 #[.int .i64 a, .int .i64 b] w fun e w' => e = .returned (.int .i64 (a % 1073741789 * (b % 1073741789) % 1073741789)) ∧ w = w' := by
  have MA := Lib.hid fun w => mod11_calls a w
  have MB := Lib.hid fun w => mod11_calls b w
  obtain ⟨x, hx⟩ : ∃ x, x = a % 1073741789 := ⟨_, rfl⟩
  obtain ⟨y, hy⟩ : ∃ y, y = b % 1073741789 := ⟨_, rfl⟩
  have hx0 : 0 ≤ x ∧ x < 1073741789 := by omega
  have hy0 : 0 ≤ y ∧ y < 1073741789 := by omega
  rw [← hx] at MA; rw [← hy] at MB; rw [← hx, ← hy]
  clear hx hy
  have m1 := mul_bound (P := 1073741789) (a := x) (b := y) (by omega) (by omega) (by omega) (by omega)
  have e1 : wrap64 (x * y) = x * y := wrap64_id (by omega) (by omega)
  have e1' : IntKind.i64.wrap (x * y) = x * y := IntWalk.i64_in _ (by omega)
  have e2 : (x * y).tmod 1073741789 = x * y % 1073741789 := tmod_pos m1.1
  clear m1
  go_enter Tryd.func30, Tryd.ntmps30
  go_wp2_with (first | (go_at_call_of 17 (Value.int .i64 a); refine (MA.out _).mono ?_; rintro e w' ⟨rfl, rfl⟩) | (go_at_call 17; refine (MB.out _).mono ?_; rintro e w' ⟨rfl, rfl⟩))
  go_ret
  exact ⟨rfl, rfl⟩

/-- what holds between two rounds of Power -/
structure PwQ (a n c b k : Nat) : Prop where
  lc : c < 1073741789
  lb : b < 1073741789
  lk : k < 2147483648
  eq : c * (b ^ k % 1073741789) % 1073741789 = a ^ n % 1073741789

theorem pow_step (b k q : Nat) : b ^ k % q = (if k % 2 = 1 then b else 1) * (b * b % q) ^ (k / 2) % q := by
  have h2 : b ^ k = b ^ (2 * (k / 2) + k % 2) := by congr 1; omega
  have h3 : (b * b % q) ^ (k / 2) % q = (b * b) ^ (k / 2) % q := (Nat.pow_mod ..).symm
  rw [h2, Nat.pow_add, Nat.pow_mul, Nat.pow_two, ← Nat.mod_mul_mod, ← h3, Nat.mod_mul_mod, Nat.mul_comm]
  rcases Nat.mod_two_eq_zero_or_one k with e | e <;> rw [e]
  · simp
  · simp

theorem PwQ.odd {a n c b k : Nat} (h : PwQ a n c b k) (hk : k % 2 = 1) : PwQ a n (c * b % 1073741789) (b * b % 1073741789) (k / 2) := by
  refine ⟨Nat.mod_lt _ (by omega), Nat.mod_lt _ (by omega), by have := h.lk; omega, ?_⟩
  rw [← h.eq, pow_step b k, if_pos hk, Nat.mod_mul_mod, Nat.mul_mod_mod, Nat.mul_mod_mod, Nat.mul_assoc]

theorem PwQ.even {a n c b k : Nat} (h : PwQ a n c b k) (hk : k % 2 = 0) : PwQ a n c (b * b % 1073741789) (k / 2) := by
  refine ⟨h.lc, Nat.mod_lt _ (by omega), by have := h.lk; omega, ?_⟩
  rw [← h.eq, pow_step b k, if_neg (by omega), Nat.one_mul]

theorem PwQ.done {a n c b : Nat} (h : PwQ a n c b 0) : c = a ^ n % 1073741789 := by
  have := h.eq
  rw [Nat.pow_zero, Nat.mod_eq_of_lt (show 1 < 1073741789 by omega), Nat.mul_one, Nat.mod_eq_of_lt h.lc] at this
  exact this

set_option maxHeartbeats 400000 in
theorem power11_calls (a : Int) (n : Nat) (w : World) (hn : n < 2147483648) :
    Calls Tryd.prog 39 #[.int .i64 a, .int .i64 n] w fun e w' => e = .returned (.int .i64 ((a % 1073741789).toNat ^ n % 1073741789 : Nat)) ∧ w = w' := by
  have MA := Lib.hid fun w => mod11_calls a w
  obtain ⟨x, hx⟩ : ∃ x, x = (a % 1073741789).toNat := ⟨_, rfl⟩
  have hxa : a % 1073741789 = (x : Int) := by omega
  have hx0 : x < 1073741789 := by omega
  rw [hxa] at MA; rw [← hx]
  clear hx hxa
  go_enter Tryd.func39, Tryd.ntmps39
  go_wp2_with (go_at_call 17; refine (MA.out _).mono ?_; rintro e w' ⟨rfl, rfl⟩)
  go_loop [0, 1, 5] (fun v0 v1 v3 => ∃ (b k c : Nat), v0 = .int .i64 b ∧ v1 = .int .i64 k ∧ v3 = .int .i64 c ∧ PwQ x n c b k) (fun _ v1 _ => (intOf v1).toNat)
  case atStart => exact ⟨x, n, 1, rfl, rfl, rfl, ⟨by omega, hx0, hn, by rw [Nat.one_mul, Nat.mod_mod]⟩⟩
  case round =>
    obtain ⟨b, k, c, rfl, rfl, rfl, hI⟩ := hrel
    have hc := hI.lc
    have hb := hI.lb
    have hk := hI.lk
    have m1 := mul_bound (P := 1073741789) (a := c) (b := b) (by omega) (by omega) (by omega) (by omega)
    have m2 := mul_bound (P := 1073741789) (a := b) (b := b) (by omega) (by omega) (by omega) (by omega)
    have e1 : wrap64 ((c : Int) * b) = c * b := wrap64_id (by omega) (by omega)
    have e2 : ((c : Int) * b).tmod 1073741789 = c * b % 1073741789 := tmod_pos m1.1
    have e3 : wrap64 ((b : Int) * b) = b * b := wrap64_id (by omega) (by omega)
    have e4 : ((b : Int) * b).tmod 1073741789 = b * b % 1073741789 := tmod_pos m2.1
    clear m1 m2
    by_cases hk0 : k = 0
    · subst hk0
      have hdone := Lib.hid hI.done
      go_wp2
      go_ret
      rw [hdone.out]; exact ⟨rfl, rfl⟩
    · have hd : decide ((0 : Int) < k) = true := by simp; omega
      by_cases ho : k % 2 = 1
      · have q : ((k : Int) % 2 == 1) = true := by simp; omega
        go_wp2
        go_round
        case rel => exact ⟨b * b % 1073741789, k / 2, c * b % 1073741789, by simp, by go_num, by simp, hI.odd ho⟩
        case measure => simp [intOf]; omega
      · have q : ((k : Int) % 2 == 1) = false := by simp; omega
        go_wp2
        go_round
        case rel => exact ⟨b * b % 1073741789, k / 2, c, by simp, by go_num, rfl, hI.even (by omega)⟩
        case measure => simp [intOf]; omega

theorem quot11_calls (a b : Int) (n : Nat) (w : World) (hn : n = 1073741787) :
    Calls Tryd.prog 18 #[.int .i64 a, .int .i64 b] w fun e w' => e = .returned (.int .i64 (a % 1073741789 * (((b % 1073741789).toNat ^ n % 1073741789 : Nat) % 1073741789 : Int) % 1073741789)) ∧ w = w' := by
  have PA := Lib.hid fun w => power11_calls b n w (by omega)
  rw [show (n : Int) = 1073741787 by omega] at PA
  obtain ⟨d, hd⟩ : ∃ d, d = (b % 1073741789).toNat ^ n % 1073741789 := ⟨_, rfl⟩
  rw [← hd] at PA; rw [← hd]
  clear hd hn
  have TA := Lib.hid fun w => times11_calls a d w
  go_enter Tryd.func18, Tryd.ntmps18
  go_wp2_with (first | (go_at_call 39; refine (PA.out _).mono ?_; rintro e w' ⟨rfl, rfl⟩) | (go_at_call 30; refine (TA.out _).mono ?_; rintro e w' ⟨rfl, rfl⟩))
  go_ret
  exact ⟨rfl, rfl⟩
end Go.Proofs.YthjglkpkeffmpaaDoor
