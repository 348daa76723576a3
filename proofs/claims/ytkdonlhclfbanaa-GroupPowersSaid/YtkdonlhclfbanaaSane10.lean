/- THE WALK OF acequialaw10.sane: the chapter's examples hold. -/
import Derived.Test.YtkdonlhclfbanaaPow
namespace Go.Proofs.Ytkdonlhclfbanaa
open Go.RowKit Go.Shelf

theorem el4 : elz 4 = true := by decide +kernel
theorem el2 : elz 2 = false := by decide +kernel
theorem el0 : elz 0 = false := by decide +kernel
theorem el1 : elz 1 = true := by decide +kernel
theorem elP : elz 2147483579 = false := by decide +kernel
theorem elP1 : elz 2147483578 = false := by decide +kernel
theorem elP2 : elz 2147483577 = true := by decide +kernel
theorem p42 : Sq.pz (4 : Int).toNat 2 = 16 := by decide +kernel
theorem p4Q : Sq.pz (4 : Int).toNat 1073741789 = 1 := by decide +kernel
theorem p4m : Sq.pz (4 : Int).toNat (-1) = 536870895 := by decide +kernel

theorem sane_pow1 (w : World) : Calls Try.prog 11 #[.int .i64 4, .int .i64 2] w fun e w' => e = .returned (.tuple #[.int .i64 16, .int .i64 0]) ∧ Below w.heap.size w w' := by
  have h := pow_yes (n := 2) w el4
  rw [p42] at h; exact h
theorem sane_pow2 (w : World) : Calls Try.prog 11 #[.int .i64 4, .int .i64 1073741789] w fun e w' => e = .returned (.tuple #[.int .i64 1, .int .i64 0]) ∧ Below w.heap.size w w' := by
  have h := pow_yes (n := 1073741789) w el4
  rw [p4Q] at h; exact h
theorem sane_pow3 (w : World) : Calls Try.prog 11 #[.int .i64 4, .int .i64 (-1)] w fun e w' => e = .returned (.tuple #[.int .i64 536870895, .int .i64 0]) ∧ Below w.heap.size w w' := by
  have h := pow_yes (n := -1) w el4
  rw [p4m] at h; exact h
theorem sane_mul1 (w : World) : Calls Try.prog 9 #[.int .i64 4, .int .i64 4] w fun e w' => e = .returned (.tuple #[.int .i64 16, .int .i64 0]) ∧ w = w' := mul_yes w el4 el4
theorem sane_mul2 (w : World) : Calls Try.prog 9 #[.int .i64 4, .int .i64 2] w fun e w' => e = .returned (.tuple #[.int .i64 0, .int .i64 100]) ∧ w = w' := mul_no w (by rw [el2, el4]; rfl)
theorem sane_elem (w : World) : Calls Try.prog 18 #[.int .i64 2] w fun e w' => e = .returned (.tuple #[.int .i64 2147483577, .int .i64 0]) ∧ w = w' := by
  have h := element_yes (n := 2) w (by omega) (by omega)
  rw [el2] at h; exact h
theorem sane_num (w : World) : Calls Try.prog 19 #[.int .i64 2147483577] w fun e w' => e = .returned (.tuple #[.int .i64 2, .int .i64 0]) ∧ w = w' := by
  have h := number_yes (x := 2147483577) w elP2
  exact h

set_option maxRecDepth 100000 in
set_option maxHeartbeats 1000000 in
theorem sane_calls (w : World) : Calls Try.prog 8 #[] w fun e w' => e = .returned (.bool true) ∧ Below w.heap.size w w' := by
  go_enter Try.func8, Try.ntmps8
  go_wp2_with fail
  refine (sane_pow1 _).mono ?_
  rintro e w1 ⟨rfl, b1⟩
  go_wp2_with fail
  refine (sane_pow2 _).mono ?_
  rintro e w2 ⟨rfl, b2⟩
  go_wp2_with fail
  refine (sane_pow3 _).mono ?_
  rintro e w3 ⟨rfl, b3⟩
  go_wp2_with fail
  refine (pow_no _ el0).mono ?_
  rintro e w4 ⟨rfl, b4⟩
  have B : Below w.heap.size w w4 := ((b1.trans (b2.mono b1.size)).trans (b3.mono (by have := b1.size; have := b2.size; omega))).trans (b4.mono (by have := b1.size; have := b2.size; have := b3.size; omega))
  clear b1 b2 b3 b4
  go_wp2_with fail
  refine (sane_mul1 _).mono ?_
  rintro e w5 ⟨rfl, rfl⟩
  go_wp2_with fail
  refine (sane_mul2 _).mono ?_
  rintro e w5 ⟨rfl, rfl⟩
  go_wp2_with fail
  refine (sane_elem _).mono ?_
  rintro e w5 ⟨rfl, rfl⟩
  go_wp2_with fail
  refine (element_no _ (by omega)).mono ?_
  rintro e w5 ⟨rfl, rfl⟩
  go_wp2_with fail
  refine (element_no _ (by omega)).mono ?_
  rintro e w5 ⟨rfl, rfl⟩
  go_wp2_with fail
  refine (sane_num _).mono ?_
  rintro e w5 ⟨rfl, rfl⟩
  go_wp2_with fail
  refine (number_no _ el2).mono ?_
  rintro e w5 ⟨rfl, rfl⟩
  go_wp2_with fail
  refine (valid_no _ el0).mono ?_
  rintro e w5 ⟨rfl, rfl⟩
  go_wp2_with fail
  refine (valid_no _ elP).mono ?_
  rintro e w5 ⟨rfl, rfl⟩
  go_wp2_with fail
  refine (valid_no _ el2).mono ?_
  rintro e w5 ⟨rfl, rfl⟩
  go_wp2_with fail
  refine (valid_yes _ el1).mono ?_
  rintro e w5 ⟨rfl, rfl⟩
  go_wp2_with fail
  refine (valid_yes _ el4).mono ?_
  rintro e w5 ⟨rfl, rfl⟩
  go_wp2_with fail
  refine (valid_no _ elP1).mono ?_
  rintro e w5 ⟨rfl, rfl⟩
  go_wp2_with fail
  go_ret
  exact ⟨rfl, B⟩

/-! ### the law's own helpers -/
/-- the element of any number -/
def elem (x : Int) : Int := if elz (x % 1073741789 + 1) then x % 1073741789 + 1 else 2147483579 - (x % 1073741789 + 1)

theorem elz_neg {x : Int} (h1 : 1 ≤ x) (h2 : x < 2147483579) : elz (2147483579 - x) = !elz x := by
  obtain ⟨n, rfl⟩ := Int.eq_ofNat_of_zero_le (show 0 ≤ x by omega)
  have := Sq.el_neg (x := n) (by omega) (by omega)
  unfold elz
  rw [Int.toNat_natCast, ← this]
  congr 1; omega

theorem elz_elem (x : Int) : elz (elem x) = true := by
  unfold elem
  split
  · assumption
  · rename_i h
    rw [elz_neg (by omega) (by omega)]; simpa using h

/-- a product of elements -/
theorem elz_mul {a b : Int} (ha : elz a = true) (hb : elz b = true) : elz (a * b % 2147483579) = true := by
  have ra := elz_range ha
  have rb := elz_range hb
  obtain ⟨x, rfl⟩ := Int.eq_ofNat_of_zero_le (show 0 ≤ a by omega)
  obtain ⟨y, rfl⟩ := Int.eq_ofNat_of_zero_le (show 0 ≤ b by omega)
  rw [elz_nat] at ha hb
  have e : ((x : Int) * y % 2147483579) = ((x * y % 2147483579 : Nat) : Int) := by simp
  rw [e, elz_nat]; exact Sq.el_mul ha hb

theorem element_law (x : Int) (w : World) : Calls Try.prog 15 #[.int .i64 x] w fun e w' => e = .returned (.int .i64 (elem x)) ∧ w = w' := by
  obtain ⟨r, hr⟩ : ∃ r, x.tmod 1073741789 = r := ⟨_, rfl⟩
  have hl : -1073741789 < r ∧ r < 1073741789 ∧ r % 1073741789 = x % 1073741789 := by
    have h1 := Int.mul_tdiv_add_tmod x 1073741789
    have h2 := Int.tmod_lt_of_pos x (show (0 : Int) < 1073741789 by omega)
    have h3 := Int.lt_tmod_of_pos x (show (0 : Int) < 1073741789 by omega)
    rw [hr] at h1 h2 h3
    generalize x.tdiv 1073741789 = q at h1
    omega
  obtain ⟨l1, l2, l3⟩ := hl
  by_cases hn : r < 0
  · have hd : decide (r < 0) = true := by simpa using hn
    have E : Hid (elem x = if elz (r + 1073741789 + 1) then r + 1073741789 + 1 else 2147483579 - (r + 1073741789 + 1)) := by
      show elem x = _
      unfold elem; rw [show x % 1073741789 = r + 1073741789 by omega]
    clear l3
    go_enter Try.func15, Try.ntmps15
    go_wp2_with fail
    refine (element_yes _ (by omega) (by omega)).mono ?_
    rintro e w5 ⟨rfl, rfl⟩
    rw [← E.out]
    go_wp2_with fail
    go_ret
    exact ⟨rfl, rfl⟩
  · have hd : decide (r < 0) = false := by simpa using hn
    have E : Hid (elem x = if elz (r + 1) then r + 1 else 2147483579 - (r + 1)) := by
      show elem x = _
      unfold elem; rw [show x % 1073741789 = r by omega]
    clear l3
    go_enter Try.func15, Try.ntmps15
    go_wp2_with fail
    refine (element_yes _ (by omega) (by omega)).mono ?_
    rintro e w5 ⟨rfl, rfl⟩
    rw [← E.out]
    go_wp2_with fail
    go_ret
    exact ⟨rfl, rfl⟩

/-- the law's product of two: a name for the number -/
theorem mul_law (b : Nat) (x y : Int) (w : World) (hx : elz x = true) (hy : elz y = true) (h0 : w.cell? ⟨b, 0, none⟩ = some (.int .i64 x)) (h1 : w.cell? ⟨b, 1, none⟩ = some (.int .i64 y)) :
    Calls Try.prog 16 #[.slice (some ⟨b, 0, none⟩) 2 2] w fun e w' => e = .returned (.int .i64 (x * y % 2147483579)) ∧ w = w' := by
  have rx := elz_range hx
  have e1 : (1 : Int) * x % 2147483579 = x := by omega
  have M1 : Hid (∀ w, Calls Try.prog 9 #[.int .i64 1, .int .i64 x] w fun e w' => e = .returned (.tuple #[.int .i64 x, .int .i64 0]) ∧ w = w') := by
    intro w
    have h := mul_yes w el1 hx
    rw [e1] at h; exact h
  have M2 := Lib.hid fun w => mul_yes w hx hy
  clear e1 rx hx hy
  go_enter Try.func16, Try.ntmps16
  go_wp2
  go_loop [3, 10] (fun v3 v10 => (v3 = .int .i64 1 ∧ v10 = .int .i64 0) ∨ (v3 = .int .i64 x ∧ v10 = .int .i64 1) ∨ (v3 = .int .i64 (x * y % 2147483579) ∧ v10 = .int .i64 2)) (fun _ i => 2 - (intOf i).toNat)
  case atStart => exact .inl ⟨rfl, rfl⟩
  case round =>
    rcases hrel with ⟨rfl, rfl⟩ | ⟨rfl, rfl⟩ | ⟨rfl, rfl⟩
    · go_wp2_with fail
      refine (M1.out _).mono ?_
      rintro e w5 ⟨rfl, rfl⟩
      go_wp2_with fail
      go_round
      case rel => exact .inr (.inl ⟨rfl, rfl⟩)
      case measure => simp [intOf]
    · go_wp2_with fail
      refine (M2.out _).mono ?_
      rintro e w5 ⟨rfl, rfl⟩
      go_wp2_with fail
      go_round
      case rel => exact .inr (.inr ⟨rfl, rfl⟩)
      case measure => simp [intOf]
    · go_wp2_with fail
      go_ret
      exact ⟨rfl, rfl⟩

theorem pow_law {a : Int} (n : Int) (w : World) (ha : elz a = true) :
    Calls Try.prog 17 #[.int .i64 a, .int .i64 n] w fun e w' => e = .returned (.int .i64 (Sq.pz a.toNat n)) ∧ Below w.heap.size w w' := by
  have P1 := Lib.hid fun w => pow_yes (n := n) w ha
  clear ha
  go_enter Try.func17, Try.ntmps17
  go_wp2_with fail
  refine (P1.out _).mono ?_
  rintro e w1 ⟨rfl, b1⟩
  go_wp2_with fail
  go_ret
  exact ⟨rfl, b1⟩

end Go.Proofs.Ytkdonlhclfbanaa
