/- SIGNATURES, in plain numbers. Nothing of the program. -/
import Derived.Test.YthjglkpkeffmpaaDoorSq
namespace Go.Proofs.YthjglkpkeffmpaaDoor.Sg
open Sq Num

theorem el4 : Sq.el 4 = true := by decide +kernel

theorem pz_congr (a : Nat) {m n : Int} (h : m % 1073741789 = n % 1073741789) : pz a m = pz a n := by
  unfold pz lx; rw [h]

/-- what is signed is right: the point of (E, S) for the key of x is the point of k -/
theorem point_right (x k E S : Int) (hS : S % 1073741789 = (k + E * x) % 1073741789) : pz 4 S * pz (pz 4 x) (-E) % 2147483579 = pz 4 k := by
  rw [pz_mul el4, ← pz_add el4]
  apply pz_congr
  have : x * -E = -(E * x) := by rw [Int.mul_neg, Int.mul_comm]
  rw [this]
  generalize E * x = y at *
  omega

/-! ### quotients modulo Q -/
theorem pow_half {a n k : Nat} (h : k + k = n) : a ^ n = a ^ k * a ^ k := by rw [← h, Nat.pow_add]
theorem pow_shift {a n m q : Nat} (h : n + 1 = m) : a * (a ^ n % q) % q = a ^ m % q := by
  subst h
  rw [Nat.mul_mod_mod, ← Nat.pow_succ']
theorem fermat_half {a n k q : Nat} (h : k + k = n) (he : a ^ k % q = 1 ∨ a ^ k % q = q - 1) (hq : 2 < q) : a ^ n % q = 1 := by
  rw [pow_half h, Nat.mul_mod]
  rcases he with he | he
  · rw [he]; exact Nat.mod_eq_of_lt (by omega)
  · rw [he]
    have : (q - 1) * (q - 1) = 1 + q * (q - 2) := by
      obtain ⟨r, rfl⟩ : ∃ r, q = r + 2 := ⟨q - 2, by omega⟩
      rw [show r + 2 - 1 = r + 1 by omega, show r + 2 - 2 = r by omega, Nat.mul_add, Nat.add_mul, Nat.add_mul, Nat.add_mul]
      omega
    rw [this, Nat.add_mul_mod_self_left]
    exact Nat.mod_eq_of_lt (by omega)
theorem fermat {a n : Nat} (hn : n = 1073741788) (h1 : 1 ≤ a) (h2 : a < 1073741789) : a ^ n % 1073741789 = 1 := by
  obtain ⟨k, hk⟩ : ∃ k, k = 536870894 := ⟨_, rfl⟩
  have hq : 2 * k + 1 = 1073741789 := by omega
  have he := euler (h := k) (a := a) (by rw [hq]; exact prime_Q) (by omega) h1 (by omega)
  rw [hq] at he
  refine fermat_half (k := k) (by omega) ?_ (by omega)
  rw [he]
  split
  · exact .inl rfl
  · exact .inr (by omega)

/-- the inverse, as the reference reckons it -/
theorem inv_right {a n : Nat} (hn : n = 1073741787) (h1 : 1 ≤ a) (h2 : a < 1073741789) : a * (a ^ n % 1073741789) % 1073741789 = 1 :=
  (pow_shift (m := n + 1) rfl).trans (fermat (by omega) h1 h2)

/-- two signatures with one point give away the secret -/
theorem secret_of {key : Nat} (hk : Sq.el key = true) (E S F T d q : Int) (hp : pz 4 S * pz key (-E) % 2147483579 = pz 4 T * pz key (-F) % 2147483579)
    (hd : (E - F) * d % 1073741789 = 1) (hq : q % 1073741789 = (S - T) * d % 1073741789) : pz 4 q = key := by
  have hk2 := (Sq.el_iff.1 hk)
  -- 4^(S-T) = key^(E-F)
  have h1 : pz 4 (S - T) = pz key (E - F) := by
    have a1 : pz 4 (S - T) * (pz 4 T * pz key (-F) % 2147483579) % 2147483579 = pz key (E - F) * (pz 4 T * pz key (-F) % 2147483579) % 2147483579 := by
      rw [← hp, Nat.mul_mod_mod]
      have e1 : pz 4 S * pz key (-E) % 2147483579 = pz 4 T * pz key (-F) % 2147483579 := hp
      have e2 : pz key (E - F) * (pz 4 S * pz key (-E)) % 2147483579 = pz 4 S * pz key (-F) % 2147483579 := by
        have : pz key (-F) = pz key (E - F) * pz key (-E) % 2147483579 := by rw [← pz_add hk]; congr 1; omega
        rw [this, Nat.mul_mod_mod, ← Nat.mul_assoc, ← Nat.mul_assoc, Nat.mul_comm (pz key (E - F))]
      have e3 : pz 4 (S - T) * (pz 4 S * pz key (-E)) % 2147483579 = pz 4 S * pz key (-F) % 2147483579 := by
        rw [← Nat.mul_mod_mod, hp, Nat.mul_mod_mod, ← Nat.mul_assoc]
        have : pz 4 S = pz 4 (S - T) * pz 4 T % 2147483579 := by rw [← pz_add el4]; congr 1; omega
        rw [← Nat.mod_mul_mod, ← this]
      rw [e3, Nat.mul_mod_mod, e2]
    have hc : Nat.gcd (pz 4 T * pz key (-F) % 2147483579) 2147483579 = 1 := by
      have h1 := (Sq.el_iff.1 (el_pz el4 T))
      have h2 := (Sq.el_iff.1 (el_pz hk (-F)))
      exact prime_P.coprime_lt (Sq.mod_pos h1.1 h1.2.1 h2.1 h2.2.1) (Nat.mod_lt _ (by omega))
    have := cancel hc a1
    rwa [Nat.mod_eq_of_lt (pz_lt _ _), Nat.mod_eq_of_lt (pz_lt _ _)] at this
  have h2 : pz (pz 4 (S - T)) d = pz (pz key (E - F)) d := by rw [h1]
  rw [pz_mul el4, pz_mul hk] at h2
  rw [pz_congr 4 hq, h2, pz_congr key (n := 1) (by rw [hd]; rfl), pz_1 hk2.2.1]

end Go.Proofs.YthjglkpkeffmpaaDoor.Sg
