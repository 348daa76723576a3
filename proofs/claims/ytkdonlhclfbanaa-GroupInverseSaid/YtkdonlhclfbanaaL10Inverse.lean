/- The walk of acequialaw10.GroupInverse: for all ints it returns true and turns nothing that was there. -/
import Derived.Test.YtkdonlhclfbanaaSane10
namespace Go.Proofs.Ytkdonlhclfbanaa
open Go.RowKit Go.Shelf

/-- the element of a number from 1 to Q -/
def elemOf (n : Int) : Int := if elz n then n else 2147483579 - n

theorem elemOf_facts {n : Int} (h1 : 1 ≤ n) (h2 : n ≤ 1073741789) : elz (elemOf n) = true ∧ (if elemOf n ≤ 1073741789 then elemOf n else 2147483579 - elemOf n) = n ∧ (elemOf n = n ∨ (elemOf n ≠ n ∧ elemOf n = 2147483579 - n)) := by
  unfold elemOf
  cases h : elz n with
  | true => simp [h, h2]
  | false =>
    have := elz_neg (x := n) (by omega) (by omega)
    rw [h] at this
    simp only [Bool.false_eq_true, if_false]
    exact ⟨this, by rw [if_neg (by omega)]; omega, .inr ⟨by omega, trivial⟩⟩

theorem element_of {n : Int} (w : World) (h1 : 1 ≤ n) (h2 : n ≤ 1073741789) :
    Calls Try.prog 18 #[.int .i64 n] w fun e w' => e = .returned (.tuple #[.int .i64 (elemOf n), .int .i64 0]) ∧ w = w' := element_yes w h1 h2

/-- Element at any number: what it answers -/
theorem element_any (m : Int) : (∃ y, Hid (1 ≤ m ∧ m ≤ 1073741789 ∧ y = elemOf m) ∧ Hid (∀ w, Calls Try.prog 18 #[.int .i64 m] w fun e w' => e = .returned (.tuple #[.int .i64 y, .int .i64 0]) ∧ w = w')) ∨
    Hid (∀ w, Calls Try.prog 18 #[.int .i64 m] w fun e w' => e = .returned (.tuple #[.int .i64 0, .int .i64 1]) ∧ w = w') := by
  by_cases h : 1 ≤ m ∧ m ≤ 1073741789
  · exact .inl ⟨elemOf m, ⟨h.1, h.2, rfl⟩, fun w => element_of w h.1 h.2⟩
  · exact .inr fun w => element_no w (by omega)

theorem elemOf_same {n m : Int} (h1 : 1 ≤ n) (h2 : n ≤ 1073741789) (h3 : 1 ≤ m) (h4 : m ≤ 1073741789) : (elemOf n == elemOf m) = (n == m) := by
  have a := (elemOf_facts h1 h2).2.1
  have b := (elemOf_facts h3 h4).2.1
  by_cases e : n = m
  · subst e; simp
  · have : elemOf n ≠ elemOf m := fun h => e (by rw [← a, ← b, h])
    rw [beq_eq_false_iff_ne.2 e, beq_eq_false_iff_ne.2 this]

theorem number_of {x n : Int} (w : World) (h : elz x = true) (hn : (if x ≤ 1073741789 then x else 2147483579 - x) = n) :
    Calls Try.prog 19 #[.int .i64 x] w fun e w' => e = .returned (.tuple #[.int .i64 n, .int .i64 0]) ∧ w = w' := by
  have := number_yes w h
  rw [hn] at this; exact this

set_option maxRecDepth 100000 in
set_option maxHeartbeats 1000000 in
theorem inverse_out (n m : Int) (w : World) (ho : n < 1 ∨ 1073741789 < n) :
    Calls Try.prog 7 #[.int .i64 n, .int .i64 m] w fun e w' => e = .returned (.bool true) ∧ Below w.heap.size w w' := by
  have E1 := Lib.hid fun w => element_no w ho
  cases hv : elz n with
  | false =>
    have N1 := Lib.hid fun w => number_no w hv
    have V1 := Lib.hid fun w => valid_no w hv
    clear hv
    rcases ho with h | h
    · have hd : decide (1 ≤ n) = false := by simp; omega
      go_enter Try.func7, Try.ntmps7
      go_wp2_with fail
      refine (sane_calls _).mono ?_
      rintro e w1 ⟨rfl, b1⟩
      go_wp2_with fail
      refine (E1.out _).mono ?_
      rintro e w2 ⟨rfl, rfl⟩
      go_wp2_with fail
      refine (N1.out _).mono ?_
      rintro e w3 ⟨rfl, rfl⟩
      go_wp2_with fail
      refine (V1.out _).mono ?_
      rintro e w4 ⟨rfl, rfl⟩
      go_wp2_with fail
      go_ret
      exact ⟨rfl, b1⟩
    · have hd : decide (1 ≤ n) = true := by simp; omega
      have hd2 : decide (n ≤ 1073741789) = false := by simp; omega
      go_enter Try.func7, Try.ntmps7
      go_wp2_with fail
      refine (sane_calls _).mono ?_
      rintro e w1 ⟨rfl, b1⟩
      go_wp2_with fail
      refine (E1.out _).mono ?_
      rintro e w2 ⟨rfl, rfl⟩
      go_wp2_with fail
      refine (N1.out _).mono ?_
      rintro e w3 ⟨rfl, rfl⟩
      go_wp2_with fail
      refine (V1.out _).mono ?_
      rintro e w4 ⟨rfl, rfl⟩
      go_wp2_with fail
      go_ret
      exact ⟨rfl, b1⟩
  | true =>
    have hr := elz_range hv
    have h : 1073741789 < n := by omega
    have N1 := Lib.hid fun w => number_of (n := 2147483579 - n) w hv (by rw [if_neg (by omega)])
    have V1 := Lib.hid fun w => valid_yes w hv
    have hk : elemOf (2147483579 - n) = n := by
      unfold elemOf
      rw [elz_neg (by omega) (by omega), hv]
      simp only [Bool.not_true, Bool.false_eq_true, if_false]
      omega
    have E2 : Hid (∀ w, Calls Try.prog 18 #[.int .i64 (2147483579 - n)] w fun e w' => e = .returned (.tuple #[.int .i64 n, .int .i64 0]) ∧ w = w') := by
      intro w
      have := element_of (n := 2147483579 - n) w (by omega) (by omega)
      rw [hk] at this; exact this
    have hd : decide (1 ≤ n) = true := by simp; omega
    have hd2 : decide (n ≤ 1073741789) = false := by simp; omega
    have hd3 : decide (2147483579 - n ≤ 1073741789) = true := by simp; omega
    have hd4 : decide (1 ≤ 2147483579 - n) = true := by simp; omega
    clear hv hk ho
    go_enter Try.func7, Try.ntmps7
    go_wp2_with fail
    refine (sane_calls _).mono ?_
    rintro e w1 ⟨rfl, b1⟩
    go_wp2_with fail
    refine (E1.out _).mono ?_
    rintro e w2 ⟨rfl, rfl⟩
    go_wp2_with fail
    refine (N1.out _).mono ?_
    rintro e w3 ⟨rfl, rfl⟩
    go_wp2_with fail
    refine (V1.out _).mono ?_
    rintro e w4 ⟨rfl, rfl⟩
    go_wp2_with fail
    refine (E2.out _).mono ?_
    rintro e w5 ⟨rfl, rfl⟩
    go_wp2_with fail
    go_ret
    exact ⟨rfl, b1⟩

set_option maxRecDepth 100000 in
set_option maxHeartbeats 1000000 in
theorem inverse_in (n m : Int) (w : World) (h1 : 1 ≤ n) (h2 : n ≤ 1073741789) :
    Calls Try.prog 7 #[.int .i64 n, .int .i64 m] w fun e w' => e = .returned (.bool true) ∧ Below w.heap.size w w' := by
  obtain ⟨f1, f2, f3⟩ := elemOf_facts h1 h2
  have HS := Lib.hid fun (m : Int) (h3 : 1 ≤ m) (h4 : m ≤ 1073741789) => elemOf_same h1 h2 h3 h4
  have E1 := Lib.hid fun w => element_of w h1 h2
  have E0 : Hid (elemOf n = if elz n then n else 2147483579 - n) := rfl
  generalize elemOf n = x at *
  have N1 := Lib.hid fun w => number_of w f1 f2
  have V1 := Lib.hid fun w => valid_yes w f1
  have hd : decide (1 ≤ n) = true := by simp; omega
  have hd2 : decide (n ≤ 1073741789) = true := by simp; omega
  -- Number n, Valid n
  have NN : (elz n = true ∧ x = n) ∨ (elz n = false ∧ x = 2147483579 - n) := by
    have := E0.out
    cases hv : elz n <;> rw [hv] at this
    · exact .inr ⟨rfl, this⟩
    · exact .inl ⟨rfl, this⟩
  clear E0 f1 f2 f3
  rcases NN with ⟨hv, rfl⟩ | ⟨hv, rfl⟩
  · have V2 := Lib.hid fun w => valid_yes w hv
    clear hv
    rcases element_any m with ⟨y, Hy, E2⟩ | E2
    · have hxy : (x == y) = (x == m) := by obtain ⟨a, b, rfl⟩ := Hy.out; exact HS.out m a b
      clear Hy HS
      cases hb : (x == m) with
      | true =>
        rw [hb] at hxy
        go_enter Try.func7, Try.ntmps7
        go_wp2_with fail
        refine (sane_calls _).mono ?_
        rintro e w1 ⟨rfl, b1⟩
        go_wp2_with fail
        refine (E1.out _).mono ?_
        rintro e w2 ⟨rfl, rfl⟩
        go_wp2_with fail
        refine (N1.out _).mono ?_
        rintro e w3 ⟨rfl, rfl⟩
        go_wp2_with fail
        refine (V1.out _).mono ?_
        rintro e w4 ⟨rfl, rfl⟩
        go_wp2_with fail
        refine (E2.out _).mono ?_
        rintro e w5 ⟨rfl, rfl⟩
        go_wp2_with fail
        refine (N1.out _).mono ?_
        rintro e w6 ⟨rfl, rfl⟩
        go_wp2_with fail
        refine (V2.out _).mono ?_
        rintro e w7 ⟨rfl, rfl⟩
        go_wp2_with fail
        refine (E1.out _).mono ?_
        rintro e w8 ⟨rfl, rfl⟩
        go_wp2_with fail
        go_ret
        exact ⟨rfl, b1⟩
      | false =>
        rw [hb] at hxy
        go_enter Try.func7, Try.ntmps7
        go_wp2_with fail
        refine (sane_calls _).mono ?_
        rintro e w1 ⟨rfl, b1⟩
        go_wp2_with fail
        refine (E1.out _).mono ?_
        rintro e w2 ⟨rfl, rfl⟩
        go_wp2_with fail
        refine (N1.out _).mono ?_
        rintro e w3 ⟨rfl, rfl⟩
        go_wp2_with fail
        refine (V1.out _).mono ?_
        rintro e w4 ⟨rfl, rfl⟩
        go_wp2_with fail
        refine (E2.out _).mono ?_
        rintro e w5 ⟨rfl, rfl⟩
        go_wp2_with fail
        refine (N1.out _).mono ?_
        rintro e w6 ⟨rfl, rfl⟩
        go_wp2_with fail
        refine (V2.out _).mono ?_
        rintro e w7 ⟨rfl, rfl⟩
        go_wp2_with fail
        refine (E1.out _).mono ?_
        rintro e w8 ⟨rfl, rfl⟩
        go_wp2_with fail
        go_ret
        exact ⟨rfl, b1⟩
    · clear HS
      go_enter Try.func7, Try.ntmps7
      go_wp2_with fail
      refine (sane_calls _).mono ?_
      rintro e w1 ⟨rfl, b1⟩
      go_wp2_with fail
      refine (E1.out _).mono ?_
      rintro e w2 ⟨rfl, rfl⟩
      go_wp2_with fail
      refine (N1.out _).mono ?_
      rintro e w3 ⟨rfl, rfl⟩
      go_wp2_with fail
      refine (V1.out _).mono ?_
      rintro e w4 ⟨rfl, rfl⟩
      go_wp2_with fail
      refine (E2.out _).mono ?_
      rintro e w5 ⟨rfl, rfl⟩
      go_wp2_with fail
      refine (N1.out _).mono ?_
      rintro e w6 ⟨rfl, rfl⟩
      go_wp2_with fail
      refine (V2.out _).mono ?_
      rintro e w7 ⟨rfl, rfl⟩
      go_wp2_with fail
      refine (E1.out _).mono ?_
      rintro e w8 ⟨rfl, rfl⟩
      go_wp2_with fail
      go_ret
      exact ⟨rfl, b1⟩
  · have hxn : (2147483579 - n != n) = true := by rw [bne, beq_eq_false_iff_ne.2 (by omega)]; rfl
    have V2 := Lib.hid fun w => valid_no w hv
    have N2 := Lib.hid fun w => number_no w hv
    clear hv
    rcases element_any m with ⟨y, Hy, E2⟩ | E2
    · have hxy : (2147483579 - n == y) = (n == m) := by obtain ⟨a, b, rfl⟩ := Hy.out; exact HS.out m a b
      clear Hy HS
      cases hb : (n == m) with
      | true =>
        rw [hb] at hxy
        go_enter Try.func7, Try.ntmps7
        go_wp2_with fail
        refine (sane_calls _).mono ?_
        rintro e w1 ⟨rfl, b1⟩
        go_wp2_with fail
        refine (E1.out _).mono ?_
        rintro e w2 ⟨rfl, rfl⟩
        go_wp2_with fail
        refine (N1.out _).mono ?_
        rintro e w3 ⟨rfl, rfl⟩
        go_wp2_with fail
        refine (V1.out _).mono ?_
        rintro e w4 ⟨rfl, rfl⟩
        go_wp2_with fail
        refine (E2.out _).mono ?_
        rintro e w5 ⟨rfl, rfl⟩
        go_wp2_with fail
        refine (N2.out _).mono ?_
        rintro e w6 ⟨rfl, rfl⟩
        go_wp2_with fail
        refine (V2.out _).mono ?_
        rintro e w7 ⟨rfl, rfl⟩
        go_wp2_with fail
        go_ret
        exact ⟨rfl, b1⟩
      | false =>
        rw [hb] at hxy
        go_enter Try.func7, Try.ntmps7
        go_wp2_with fail
        refine (sane_calls _).mono ?_
        rintro e w1 ⟨rfl, b1⟩
        go_wp2_with fail
        refine (E1.out _).mono ?_
        rintro e w2 ⟨rfl, rfl⟩
        go_wp2_with fail
        refine (N1.out _).mono ?_
        rintro e w3 ⟨rfl, rfl⟩
        go_wp2_with fail
        refine (V1.out _).mono ?_
        rintro e w4 ⟨rfl, rfl⟩
        go_wp2_with fail
        refine (E2.out _).mono ?_
        rintro e w5 ⟨rfl, rfl⟩
        go_wp2_with fail
        refine (N2.out _).mono ?_
        rintro e w6 ⟨rfl, rfl⟩
        go_wp2_with fail
        refine (V2.out _).mono ?_
        rintro e w7 ⟨rfl, rfl⟩
        go_wp2_with fail
        go_ret
        exact ⟨rfl, b1⟩
    · clear HS
      go_enter Try.func7, Try.ntmps7
      go_wp2_with fail
      refine (sane_calls _).mono ?_
      rintro e w1 ⟨rfl, b1⟩
      go_wp2_with fail
      refine (E1.out _).mono ?_
      rintro e w2 ⟨rfl, rfl⟩
      go_wp2_with fail
      refine (N1.out _).mono ?_
      rintro e w3 ⟨rfl, rfl⟩
      go_wp2_with fail
      refine (V1.out _).mono ?_
      rintro e w4 ⟨rfl, rfl⟩
      go_wp2_with fail
      refine (E2.out _).mono ?_
      rintro e w5 ⟨rfl, rfl⟩
      go_wp2_with fail
      refine (N2.out _).mono ?_
      rintro e w6 ⟨rfl, rfl⟩
      go_wp2_with fail
      refine (V2.out _).mono ?_
      rintro e w7 ⟨rfl, rfl⟩
      go_wp2_with fail
      go_ret
      exact ⟨rfl, b1⟩

theorem GroupInverse_walk (n m : Int) (w : World) (_ : -9223372036854775808 ≤ n) (_ : n ≤ 9223372036854775807) (_ : -9223372036854775808 ≤ m) (_ : m ≤ 9223372036854775807) :
    Calls Try.prog 7 #[.int .i64 n, .int .i64 m] w fun e w' => e = .returned (.bool true) ∧ Below w.heap.size w w' := by
  by_cases h : 1 ≤ n ∧ n ≤ 1073741789
  · exact inverse_in n m w h.1 h.2
  · exact inverse_out n m w (by omega)

end Go.Proofs.Ytkdonlhclfbanaa
