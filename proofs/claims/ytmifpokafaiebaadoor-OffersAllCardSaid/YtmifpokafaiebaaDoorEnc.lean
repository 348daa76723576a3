/- THE ENCODING OF VALUES, in plain lists of bytes. Nothing of the program. -/
namespace Go.Proofs.YtmifpokafaiebaaDoor.Enc

/-- the digits of u, 7 bits each, the lowest first -/
def numF : Nat → Nat → List UInt8
  | 0, _ => []
  | f + 1, u => if u < 128 then [UInt8.ofNat u] else UInt8.ofNat (u % 128 + 128) :: numF f (u / 128)
def num (u : Nat) : List UInt8 := numF 10 u
/-- the unsigned form of an integer -/
def zz (n : Int) : Nat := if n < 0 then (-(n + 1)).toNat * 2 + 1 else n.toNat * 2

theorem zz_lt {n : Int} (h1 : -9223372036854775808 ≤ n) (h2 : n ≤ 9223372036854775807) : zz n < 18446744073709551616 := by
  unfold zz; split <;> omega
theorem zz_inj {a b : Int} (h : zz a = zz b) : a = b := by
  unfold zz at h; split at h <;> split at h <;> omega

theorem numF_length : ∀ (f u : Nat), (numF f u).length ≤ f
  | 0, _ => by simp [numF]
  | f + 1, u => by
    rw [numF]; split
    · simp
    · simp; exact numF_length f _
theorem num_length (u : Nat) : (num u).length ≤ 10 := numF_length 10 u
theorem numF_pos (f u : Nat) : 0 < (numF (f + 1) u).length := by
  rw [numF]; split <;> simp

theorem ofNat_inj {a b : Nat} (ha : a < 256) (hb : b < 256) (h : UInt8.ofNat a = UInt8.ofNat b) : a = b := by
  have := congrArg UInt8.toNat h
  rwa [UInt8.toNat_ofNat', UInt8.toNat_ofNat', Nat.mod_eq_of_lt ha, Nat.mod_eq_of_lt hb] at this

theorem numF_inj : ∀ (f a b : Nat) (r s : List UInt8), a < 128 ^ f → b < 128 ^ f → numF f a ++ r = numF f b ++ s → a = b ∧ r = s
  | 0, a, b, r, s, ha, hb, h => ⟨by simp at ha hb; omega, by simpa [numF] using h⟩
  | f + 1, a, b, r, s, ha, hb, h => by
    have hq : ∀ x, x < 128 ^ (f + 1) → x / 128 < 128 ^ f := fun x hx => by rw [Nat.pow_succ] at hx; omega
    rw [numF, numF] at h
    split at h <;> split at h
    · simp only [List.cons_append, List.nil_append, List.cons.injEq] at h
      exact ⟨ofNat_inj (by omega) (by omega) h.1, h.2⟩
    · simp only [List.cons_append, List.nil_append, List.cons.injEq] at h
      have := ofNat_inj (by omega) (by omega) h.1
      omega
    · simp only [List.cons_append, List.nil_append, List.cons.injEq] at h
      have := ofNat_inj (by omega) (by omega) h.1
      omega
    · simp only [List.cons_append, List.cons.injEq] at h
      have h1 := ofNat_inj (by omega) (by omega) h.1
      have h2 := numF_inj f (a / 128) (b / 128) r s (hq a ha) (hq b hb) h.2
      exact ⟨by omega, h2.2⟩
theorem num_inj {a b : Nat} {r s : List UInt8} (ha : a < 18446744073709551616) (hb : b < 18446744073709551616) (h : num a ++ r = num b ++ s) : a = b ∧ r = s :=
  numF_inj 10 a b r s (Nat.lt_trans ha (by decide)) (Nat.lt_trans hb (by decide)) h

/-- an element of a list: an integer or a text -/
abbrev It := Int ⊕ ByteArray
def It.ok : It → Prop
  | .inl n => -9223372036854775808 ≤ n ∧ n ≤ 9223372036854775807
  | .inr s => s.size ≤ 1048576
def encI (n : Int) : List UInt8 := 1 :: num (zz n)
def encT (s : List UInt8) : List UInt8 := 2 :: (num s.length ++ s)
def encIt : It → List UInt8
  | .inl n => encI n
  | .inr s => encT s.data.toList
def encL (xs : List (List UInt8)) : List UInt8 := 3 :: (num xs.length ++ xs.flatten)

theorem encI_length (n : Int) : (encI n).length ≤ 11 := by have := num_length (zz n); simp [encI]; omega
theorem encT_length (s : List UInt8) : (encT s).length ≤ 11 + s.length := by have := num_length s.length; simp [encT]; omega
theorem encIt_length (x : It) (B : Nat) (h : ∀ s, x = .inr s → s.size ≤ B) : (encIt x).length ≤ 11 + B := by
  cases x with
  | inl n => have := encI_length n; simp only [encIt]; omega
  | inr s =>
    have h1 := encT_length s.data.toList
    have h2 := h s rfl
    have : s.data.toList.length = s.size := by rw [Array.length_toList]; rfl
    simp only [encIt]; omega

end Go.Proofs.YtmifpokafaiebaaDoor.Enc
