/- The group of squares modulo P, in plain numbers: which numbers are elements, products, powers. Nothing of the program. -/
import Derived.Test.YthjglkpkeffmpaaDoorNum
namespace Go.Proofs.YthjglkpkeffmpaaDoor.Sq
open Num

/-- the symbol (a over n), for odd n: true if it is 1 -/
def S (a n : Nat) : Bool := mu a (n / 2) % 2 == 0

theorem S_half1 {x n : Nat} (hn : n % 2 = 1) (hc : Nat.gcd x n = 1) (hx : x % 2 = 0) : S x n = (S 2 n == S (x / 2) n) := by
  have e : 2 * (n / 2) + 1 = n := by omega
  have hx2 : 2 * (x / 2) = x := by omega
  have h2 : Nat.gcd 2 (2 * (n / 2) + 1) = 1 := by
    rw [Nat.gcd_comm, ← Nat.coprime_iff_gcd_eq_one]
    simp [Nat.coprime_iff_gcd_eq_one]
  have h3 : Nat.gcd (x / 2) (2 * (n / 2) + 1) = 1 := by
    rw [e]
    have : Nat.gcd (x / 2) n ∣ Nat.gcd x n := Nat.gcd_dvd_gcd_of_dvd_left n ⟨2, by omega⟩
    rw [hc] at this
    exact Nat.dvd_one.1 this
  have h := mu_mul h2 h3
  rw [hx2] at h
  unfold S
  rcases Nat.mod_two_eq_zero_or_one (mu x (n / 2)) with a | a <;> rcases Nat.mod_two_eq_zero_or_one (mu 2 (n / 2)) with b | b <;>
    rcases Nat.mod_two_eq_zero_or_one (mu (x / 2) (n / 2)) with c | c <;> simp [a, b, c] <;> omega

theorem S_two {n : Nat} (hn : n % 2 = 1) : S 2 n = !(n % 8 == 3 || n % 8 == 5) := by
  unfold S
  rw [mu_two]
  have : n % 8 = 1 ∨ n % 8 = 3 ∨ n % 8 = 5 ∨ n % 8 = 7 := by omega
  rcases this with h | h | h | h
  · rw [show (n / 2 - n / 2 / 2) % 2 = 0 by omega, h]; rfl
  · rw [show (n / 2 - n / 2 / 2) % 2 = 1 by omega, h]; rfl
  · rw [show (n / 2 - n / 2 / 2) % 2 = 1 by omega, h]; rfl
  · rw [show (n / 2 - n / 2 / 2) % 2 = 0 by omega, h]; rfl

theorem S_one (n : Nat) : S 1 n = true := by unfold S; rw [mu_one]; rfl

theorem S_mod {a n : Nat} (hn : n % 2 = 1) : S (a % n) n = S a n := by
  unfold S
  have e : 2 * (n / 2) + 1 = n := by omega
  have := mu_mod a (n / 2)
  rw [e] at this
  rw [this]

theorem S_recip {x n : Nat} (hx : x % 2 = 1) (hn : n % 2 = 1) (hc : Nat.gcd x n = 1) : S x n = (S n x == !(x % 4 == 3 && n % 4 == 3)) := by
  have e : 2 * (n / 2) + 1 = n := by omega
  have f : 2 * (x / 2) + 1 = x := by omega
  have h := recip (n / 2) (x / 2) (by rw [e, f]; exact hc)
  rw [e, f] at h
  have hp : n / 2 * (x / 2) % 2 = (n / 2 % 2) * (x / 2 % 2) := by
    rw [Nat.mul_mod]
    rcases Nat.mod_two_eq_zero_or_one (n / 2) with a | a <;> rcases Nat.mod_two_eq_zero_or_one (x / 2) with b | b <;> simp [a, b]
  rw [hp] at h
  unfold S
  have hx4 : x % 4 = 2 * (x / 2 % 2) + 1 := by omega
  have hn4 : n % 4 = 2 * (n / 2 % 2) + 1 := by omega
  rw [hx4, hn4]
  rcases Nat.mod_two_eq_zero_or_one (n / 2) with a | a <;> rcases Nat.mod_two_eq_zero_or_one (x / 2) with b | b <;> rw [a, b] at h <;> rw [a, b] <;>
    rcases Nat.mod_two_eq_zero_or_one (mu x (n / 2)) with c | c <;> rcases Nat.mod_two_eq_zero_or_one (mu n (x / 2)) with d | d <;>
    rw [c, d] <;> first | rfl | (exfalso; omega)

/-- What holds between two rounds of the reduction. -/
structure Inv (x0 x n : Nat) (b : Bool) : Prop where
  pos : 1 ≤ x
  lt : x < 2147483579
  npos : 1 ≤ n
  nle : n ≤ 2147483579
  odd : n % 2 = 1
  cop : Nat.gcd x n = 1
  eq : S x0 2147483579 = (b == S x n)

theorem Inv.start {x : Nat} (h1 : 1 ≤ x) (h2 : x < 2147483579) : Inv x x 2147483579 true :=
  ⟨h1, h2, by omega, by omega, by omega, prime_P.coprime_lt h1 h2, by simp⟩

theorem gcd_half {x n : Nat} (h : Nat.gcd x n = 1) (hx : x % 2 = 0) : Nat.gcd (x / 2) n = 1 := by
  have : Nat.gcd (x / 2) n ∣ Nat.gcd x n := Nat.gcd_dvd_gcd_of_dvd_left n ⟨2, by omega⟩
  rw [h] at this
  exact Nat.dvd_one.1 this

theorem Inv.half1 {x0 x n : Nat} {b : Bool} (h : Inv x0 x n b) (hx : x % 2 = 0) (hn : n % 8 = 3 ∨ n % 8 = 5) : Inv x0 (x / 2) n (!b) := by
  have := h.pos; have := h.lt
  refine ⟨by omega, by omega, h.npos, h.nle, h.odd, gcd_half h.cop hx, ?_⟩
  rw [h.eq, S_half1 h.odd h.cop hx, S_two h.odd]
  rcases hn with e | e <;> rw [e] <;> cases b <;> cases S (x / 2) n <;> rfl

theorem Inv.half2 {x0 x n : Nat} {b : Bool} (h : Inv x0 x n b) (hx : x % 2 = 0) (h3 : n % 8 ≠ 3) (h5 : n % 8 ≠ 5) : Inv x0 (x / 2) n b := by
  have := h.pos; have := h.lt
  refine ⟨by omega, by omega, h.npos, h.nle, h.odd, gcd_half h.cop hx, ?_⟩
  rw [h.eq, S_half1 h.odd h.cop hx, S_two h.odd]
  have e3 : (n % 8 == 3) = false := by simp [h3]
  have e5 : (n % 8 == 5) = false := by simp [h5]
  rw [e3, e5]; cases b <;> cases S (x / 2) n <;> rfl

theorem rem_pos' {x n : Nat} (hc : Nat.gcd x n = 1) (h1 : 1 < x) : 1 ≤ n % x := by
  rcases Nat.eq_zero_or_pos (n % x) with e | e
  · rw [Nat.gcd_eq_left (Nat.dvd_of_mod_eq_zero e)] at hc; omega
  · exact e

theorem Inv.turn1 {x0 x n : Nat} {b : Bool} (h : Inv x0 x n b) (hx : x % 2 = 1) (_h1 : x ≠ 1) (hn : x % 4 = 3 ∧ n % 4 = 3) : Inv x0 (n % x) x (!b) := by
  have hp := h.pos; have hl := h.lt
  have hm := Nat.mod_lt n (show 0 < x by omega)
  refine ⟨rem_pos' h.cop (by omega), by omega, hp, by omega, hx, by rw [← Nat.gcd_rec]; exact h.cop, ?_⟩
  rw [h.eq, S_recip hx h.odd h.cop, S_mod hx, hn.1, hn.2]
  cases b <;> cases S n x <;> rfl

theorem Inv.turn2 {x0 x n : Nat} {b : Bool} (h : Inv x0 x n b) (hx : x % 2 = 1) (_h1 : x ≠ 1) (hn : x % 4 ≠ 3 ∨ n % 4 ≠ 3) : Inv x0 (n % x) x b := by
  have hp := h.pos; have hl := h.lt
  have hm := Nat.mod_lt n (show 0 < x by omega)
  refine ⟨rem_pos' h.cop (by omega), by omega, hp, by omega, hx, by rw [← Nat.gcd_rec]; exact h.cop, ?_⟩
  have : (x % 4 == 3 && n % 4 == 3) = false := by
    rcases hn with e | e <;> simp [e]
  rw [h.eq, S_recip hx h.odd h.cop, S_mod hx, this]
  cases b <;> cases S n x <;> rfl

theorem Inv.done {x0 x n : Nat} {b : Bool} (h : Inv x0 x n b) (hx : x = 1) : b = S x0 2147483579 := by
  rw [h.eq, hx, S_one]; cases b <;> rfl

/-! ### powers -/
/-- a power modulo P, by squares -/
def pwf : Nat → Nat → Nat → Nat
  | 0, _, _ => 1
  | f + 1, a, n => if n = 0 then 1 else (if n % 2 = 1 then a else 1) * pwf f (a * a % 2147483579) (n / 2) % 2147483579

theorem pwf_eq : ∀ f a n, n < 2 ^ f → pwf f a n = a ^ n % 2147483579
  | 0, a, n, h => by
    have : n = 0 := by simp at h; omega
    subst this; rfl
  | f + 1, a, n, h => by
    unfold pwf
    by_cases e : n = 0
    · subst e; rfl
    rw [if_neg e, pwf_eq f _ _ (by rw [Nat.pow_succ] at h; omega)]
    have h1 : a ^ n = (if n % 2 = 1 then a else 1) * (a * a) ^ (n / 2) := by
      rw [← Nat.pow_two, ← Nat.pow_mul]
      split
      · rw [← Nat.pow_succ', show (2 * (n / 2)).succ = n by omega]
      · rw [Nat.one_mul, show 2 * (n / 2) = n by omega]
    rw [h1, Nat.mul_mod_mod, Nat.mul_mod, ← Nat.pow_mod, ← Nat.mul_mod]

/-- the power, for exponents below 2^31 -/
def pw (a n : Nat) : Nat := pwf 31 a n

theorem pw_eq {a n : Nat} (h : n < 2147483648) : pw a n = a ^ n % 2147483579 := pwf_eq 31 a n h

theorem pw_lt (a n : Nat) : pw a n < 2147483579 := by
  unfold pw pwf
  split
  · omega
  · exact Nat.mod_lt _ (by omega)

/-- is a number an element? -/
def el (x : Nat) : Bool := 1 ≤ x && x < 2147483579 && pw x 1073741789 == 1


/-- the power modulo P, in words -/
def E (a n : Nat) : Nat := a ^ n % 2147483579

theorem pw_E {a n : Nat} (h : n < 2147483648) : pw a n = E a n := pw_eq h

theorem E_add (a m n : Nat) : E a (m + n) = E a m * E a n % 2147483579 := by
  unfold E; rw [Nat.pow_add, Nat.mul_mod]

theorem E_mul (a m n : Nat) : E a (m * n) = E (E a m) n := by
  unfold E; rw [Nat.pow_mul, ← Nat.pow_mod]

theorem E_prod (a b n : Nat) : E (a * b % 2147483579) n = E a n * E b n % 2147483579 := by
  unfold E; rw [← Nat.pow_mod, Nat.mul_pow, Nat.mul_mod]

theorem E_mod (a n : Nat) : E (a % 2147483579) n = E a n := by
  unfold E; rw [← Nat.pow_mod]

theorem E_lt (a n : Nat) : E a n < 2147483579 := Nat.mod_lt _ (by omega)

theorem E_one (n : Nat) : E 1 n = 1 := by unfold E; rw [Nat.one_pow]

theorem E_zero (a : Nat) : E a 0 = 1 := rfl
theorem E_1 {a : Nat} (h : a < 2147483579) : E a 1 = a := by unfold E; rw [Nat.pow_one, Nat.mod_eq_of_lt h]

theorem E_Q {a : Nat} (h1 : 1 ≤ a) (h2 : a < 2147483579) : E a 1073741789 = if mu a 1073741789 % 2 = 0 then 1 else 2147483578 := by
  have key : ∀ h, h = 1073741789 → E a h = if mu a h % 2 = 0 then 1 else 2 * h := by
    intro h hh
    have hp : IsPrime (2 * h + 1) := by rw [hh]; exact prime_P
    rw [← euler hp (by omega) h1 (by omega)]
    unfold E
    rw [show 2 * h + 1 = 2147483579 by omega]
  have := key 1073741789 rfl
  simpa using this

theorem el_iff {x : Nat} : el x = true ↔ 1 ≤ x ∧ x < 2147483579 ∧ E x 1073741789 = 1 := by
  unfold el
  rw [pw_E (by omega)]
  simp [and_assoc]

theorem S_el {x : Nat} (h1 : 1 ≤ x) (h2 : x < 2147483579) : S x 2147483579 = el x := by
  have b1 : decide (1 ≤ x) = true := by simpa using h1
  have b2 : decide (x < 2147483579) = true := by simpa using h2
  have key : ∀ h, h = 1073741789 → S x (2 * h + 1) = (pw x h == 1) := by
    intro h hh
    have hp : IsPrime (2 * h + 1) := by rw [hh]; exact prime_P
    have he := euler hp (by omega) h1 (by omega)
    have e1 : pw x h = x ^ h % (2 * h + 1) := by rw [pw_eq (by omega), show 2 * h + 1 = 2147483579 by omega]
    rw [e1, he]
    unfold S
    rw [show (2 * h + 1) / 2 = h by omega]
    by_cases c : mu x h % 2 = 0
    · rw [if_pos c, c]; rfl
    · rw [if_neg c, show mu x h % 2 = 1 by omega]
      have : (2 * h == 1) = false := by simp; omega
      rw [this]; rfl
  have := key 1073741789 rfl
  unfold el
  rw [b1, b2]
  exact this

/-! ### the group -/
theorem el_ne {a : Nat} (h : el a = true) : 1 ≤ a ∧ a < 2147483579 := ⟨(el_iff.1 h).1, (el_iff.1 h).2.1⟩

theorem mod_pos {a b : Nat} (ha : 1 ≤ a) (ha' : a < 2147483579) (hb : 1 ≤ b) (hb' : b < 2147483579) : 1 ≤ a * b % 2147483579 := by
  rcases Nat.eq_zero_or_pos (a * b % 2147483579) with e | e
  · rcases prime_P.mul (Nat.dvd_of_mod_eq_zero e) with h | h
    · have := Nat.le_of_dvd ha h; omega
    · have := Nat.le_of_dvd hb h; omega
  · exact e

theorem el_mul {a b : Nat} (ha : el a = true) (hb : el b = true) : el (a * b % 2147483579) = true := by
  obtain ⟨a1, a2, a3⟩ := el_iff.1 ha
  obtain ⟨b1, b2, b3⟩ := el_iff.1 hb
  refine el_iff.2 ⟨mod_pos a1 a2 b1 b2, Nat.mod_lt _ (by omega), ?_⟩
  rw [E_prod, a3, b3]

theorem E_pos {a : Nat} (h1 : 1 ≤ a) (h2 : a < 2147483579) (n : Nat) : 1 ≤ E a n := by
  induction n with
  | zero => rw [E_zero]; omega
  | succ n ih =>
    rw [E_add, E_1 h2]
    exact mod_pos ih (E_lt _ _) h1 h2

theorem el_E {a : Nat} (ha : el a = true) (n : Nat) : el (E a n) = true := by
  obtain ⟨a1, a2, a3⟩ := el_iff.1 ha
  refine el_iff.2 ⟨E_pos a1 a2 n, E_lt _ _, ?_⟩
  rw [← E_mul, Nat.mul_comm, E_mul, a3, E_one]

theorem el_one : el 1 = true := el_iff.2 ⟨by omega, by omega, E_one _⟩

theorem E_red {a : Nat} (ha : el a = true) (n : Nat) : E a (n % 1073741789) = E a n := by
  obtain ⟨a1, a2, a3⟩ := el_iff.1 ha
  have h : n = 1073741789 * (n / 1073741789) + n % 1073741789 := (Nat.div_add_mod _ _).symm
  have key : ∀ q r, E a (1073741789 * q + r) = E a r := by
    intro q r
    rw [E_add, E_mul, a3, E_one, Nat.one_mul]
    exact Nat.mod_eq_of_lt (E_lt _ _)
  exact (((congrArg (E a) h).trans (key _ _))).symm

theorem el_neg {x : Nat} (h1 : 1 ≤ x) (h2 : x < 2147483579) : el (2147483579 - x) = !el x := by
  have hm : E 2147483578 1073741789 = 2147483578 := by
    have key : ∀ h, h = 1073741789 → E (2 * h) h = 2 * h := by
      intro h hh
      have := neg_one_pow h h (by omega)
      rw [if_neg (by omega)] at this
      unfold E
      rw [show 2147483579 = 2 * h + 1 by omega]; exact this
    exact key 1073741789 rfl
  have hx : 2147483579 - x = 2147483578 * x % 2147483579 := by
    obtain ⟨t, rfl⟩ : ∃ t, x = t + 1 := ⟨x - 1, by omega⟩
    omega
  have hE : E (2147483579 - x) 1073741789 = 2147483578 * E x 1073741789 % 2147483579 := by rw [hx, E_prod, hm]
  have hq := E_Q h1 h2
  rw [hq] at hE
  by_cases h : mu x 1073741789 % 2 = 0
  · rw [if_pos h] at hq hE
    have e1 : el x = true := el_iff.2 ⟨h1, h2, hq⟩
    have e2 : el (2147483579 - x) = false := by
      rw [← Bool.not_eq_true, el_iff]
      rintro ⟨_, _, h3⟩; rw [h3] at hE; omega
    rw [e1, e2]; rfl
  · rw [if_neg h] at hq hE
    have e1 : el x = false := by
      rw [← Bool.not_eq_true, el_iff]
      rintro ⟨_, _, h3⟩; rw [h3] at hq; omega
    have e2 : el (2147483579 - x) = true := el_iff.2 ⟨by omega, by omega, by rw [hE]⟩
    rw [e1, e2]; rfl

theorem el_sq {x : Nat} (h1 : 1 ≤ x) (h2 : x < 2147483579) : el (x * x % 2147483579) = true := by
  refine el_iff.2 ⟨mod_pos h1 h2 h1 h2, Nat.mod_lt _ (by omega), ?_⟩
  rw [E_prod, E_Q h1 h2]
  split <;> rfl

theorem el_root {x : Nat} (h : el x = true) : E (E x 536870895) 2 = x := by
  obtain ⟨a1, a2, a3⟩ := el_iff.1 h
  have key : ∀ r, r * 2 = 1073741789 + 1 → E (E x r) 2 = x := by
    intro r hr
    rw [← E_mul, hr, E_add, a3, Nat.one_mul, E_1 a2, Nat.mod_eq_of_lt a2]
  exact key 536870895 rfl

/-- the exponent's least number -/
def lx (n : Int) : Nat := (n % 1073741789).toNat

theorem lx_lt (n : Int) : lx n < 1073741789 := by unfold lx; omega

/-- a power to any number -/
def pz (a : Nat) (n : Int) : Nat := pw a (lx n)

theorem pz_E (a : Nat) (n : Int) : pz a n = E a (lx n) := pw_E (by have := lx_lt n; omega)

theorem pz_lt (a : Nat) (n : Int) : pz a n < 2147483579 := pw_lt _ _

theorem el_pz {a : Nat} (h : el a = true) (n : Int) : el (pz a n) = true := by rw [pz_E]; exact el_E h _

theorem pz_add {a : Nat} (h : el a = true) (m n : Int) : pz a (m + n) = pz a m * pz a n % 2147483579 := by
  rw [pz_E, pz_E, pz_E, ← E_add, ← E_red h (lx m + lx n)]
  congr 1
  unfold lx; omega

theorem lx_mul (m n : Int) : lx (m * n) = lx m * lx n % 1073741789 := by
  unfold lx
  have h1 : (0 : Int) ≤ m % 1073741789 := by omega
  have h2 : (0 : Int) ≤ n % 1073741789 := by omega
  rw [Int.mul_emod]
  obtain ⟨a, ha⟩ := Int.eq_ofNat_of_zero_le h1
  obtain ⟨b, hb⟩ := Int.eq_ofNat_of_zero_le h2
  rw [ha, hb]
  simp only [Int.toNat_natCast]
  rw [show ((a : Int) * (b : Int)) = ((a * b : Nat) : Int) by simp]
  omega

theorem pz_mul {a : Nat} (h : el a = true) (m n : Int) : pz (pz a m) n = pz a (m * n) := by
  rw [pz_E, pz_E, pz_E, ← E_mul, lx_mul, E_red h]

theorem pz_prod (a b : Nat) (n : Int) : pz (a * b % 2147483579) n = pz a n * pz b n % 2147483579 := by
  rw [pz_E, pz_E, pz_E, E_prod]

theorem pz_0 (a : Nat) : pz a 0 = 1 := by rw [pz_E]; rfl
theorem pz_1 {a : Nat} (h : a < 2147483579) : pz a 1 = a := by rw [pz_E]; exact E_1 h
theorem pz_2 {a : Nat} (h : el a = true) : pz a 2 = a * a % 2147483579 := by
  have := pz_add h 1 1
  rw [pz_1 (el_ne h).2] at this
  exact this
theorem pz_shift (a : Nat) (n k : Int) : pz a (n + k * 1073741789) = pz a n := by
  unfold pz; congr 1; unfold lx; omega
theorem pz_Q (a : Nat) : pz a 1073741789 = 1 := by
  have := pz_shift a 0 1
  rw [pz_0] at this; exact this

theorem pz_inv {a : Nat} (h : el a = true) : a * pz a (-1) % 2147483579 = 1 := by
  have := pz_add h 1 (-1)
  rw [pz_1 (el_ne h).2] at this
  rw [← this]; exact pz_0 a

end Go.Proofs.YthjglkpkeffmpaaDoor.Sq
