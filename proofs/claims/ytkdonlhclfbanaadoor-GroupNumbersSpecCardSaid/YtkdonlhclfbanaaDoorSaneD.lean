/- THE WALK OF acequialaw10.sane: the chapter's examples hold. -/
import Derived.Test.YtkdonlhclfbanaaDoorPow
namespace Go.Proofs.YtkdonlhclfbanaaDoor
open Go.RowKit Go.Shelf
set_option linter.unusedVariables false

theorem el4 : elz 4 = true := by decide +kernel
theorem el2 : elz 2 = false := by decide +kernel
theorem el0 : elz 0 = false := by decide +kernel
theorem el1 : elz 1 = true := by decide +kernel
theorem elP : elz 2147483579 = false := by decide +kernel
theorem elP1 : elz 2147483578 = false := by decide +kernel
theorem elP2 : elz 2147483577 = true := by decide +kernel
theorem p42 : Sq.pz (4 : Int).toNat 2 = 16 := by decide +kernel
theorem p4Q : Sq.pz (4 : Int).toNat 1073741789 = 1 := by decide +kernel
theorem p4m : Sq.pz (4 : Int).toNat (-1) = 536870895 := by decide +kernel

theorem sane_pow1 (w : World) : Calls Tryd.prog 13 #[.int .i64 4, .int .i64 2] w fun e w' => e = .returned (.tuple #[.int .i64 16, .int .i64 0]) ∧ Below w.heap.size w w' := by
  have h := pow_yes (n := 2) w el4
  rw [p42] at h; exact h
theorem sane_pow2 (w : World) : Calls Tryd.prog 13 #[.int .i64 4, .int .i64 1073741789] w fun e w' => e = .returned (.tuple #[.int .i64 1, .int .i64 0]) ∧ Below w.heap.size w w' := by
  have h := pow_yes (n := 1073741789) w el4
  rw [p4Q] at h; exact h
theorem sane_pow3 (w : World) : Calls Tryd.prog 13 #[.int .i64 4, .int .i64 (-1)] w fun e w' => e = .returned (.tuple #[.int .i64 536870895, .int .i64 0]) ∧ Below w.heap.size w w' := by
  have h := pow_yes (n := -1) w el4
  rw [p4m] at h; exact h
theorem sane_mul1 (w : World) : Calls Tryd.prog 14 #[.int .i64 4, .int .i64 4] w fun e w' => e = .returned (.tuple #[.int .i64 16, .int .i64 0]) ∧ w = w' := mul_yes w el4 el4
theorem sane_mul2 (w : World) : Calls Tryd.prog 14 #[.int .i64 4, .int .i64 2] w fun e w' => e = .returned (.tuple #[.int .i64 0, .int .i64 100]) ∧ w = w' := mul_no w (by rw [el2, el4]; rfl)
theorem sane_elem (w : World) : Calls Tryd.prog 6 #[.int .i64 2] w fun e w' => e = .returned (.tuple #[.int .i64 2147483577, .int .i64 0]) ∧ w = w' := by
  have h := element_yes (n := 2) w (by omega) (by omega)
  rw [el2] at h; exact h
theorem sane_num (w : World) : Calls Tryd.prog 8 #[.int .i64 2147483577] w fun e w' => e = .returned (.tuple #[.int .i64 2, .int .i64 0]) ∧ w = w' := by
  have h := number_yes (x := 2147483577) w elP2
  exact h

set_option maxRecDepth 100000 in
set_option maxHeartbeats 1000000 in
theorem sane_calls (w : World) : Calls Tryd.prog 5 #[] w fun e w' => e = .returned (.bool true) ∧ Below w.heap.size w w' := by
  go_enter Tryd.func5, Tryd.ntmps5
  go_wp2_with fail
  refine (sane_pow1 _).mono ?_
  rintro e w1 ⟨rfl, b1⟩
  go_wp2_with fail
  refine (sane_pow2 _).mono ?_
  rintro e w2 ⟨rfl, b2⟩
  go_wp2_with fail
  refine (sane_pow3 _).mono ?_
  rintro e w3 ⟨rfl, b3⟩
  go_wp2_with fail
  refine (pow_no _ el0).mono ?_
  rintro e w4 ⟨rfl, b4⟩
  have B : Below w.heap.size w w4 := ((b1.trans (b2.mono b1.size)).trans (b3.mono (by have := b1.size; have := b2.size; omega))).trans (b4.mono (by have := b1.size; have := b2.size; have := b3.size; omega))
  clear b1 b2 b3 b4
  go_wp2_with fail
  refine (sane_mul1 _).mono ?_
  rintro e w5 ⟨rfl, rfl⟩
  go_wp2_with fail
  refine (sane_mul2 _).mono ?_
  rintro e w5 ⟨rfl, rfl⟩
  go_wp2_with fail
  refine (sane_elem _).mono ?_
  rintro e w5 ⟨rfl, rfl⟩
  go_wp2_with fail
  refine (element_no _ (by omega)).mono ?_
  rintro e w5 ⟨rfl, rfl⟩
  go_wp2_with fail
  refine (element_no _ (by omega)).mono ?_
  rintro e w5 ⟨rfl, rfl⟩
  go_wp2_with fail
  refine (sane_num _).mono ?_
  rintro e w5 ⟨rfl, rfl⟩
  go_wp2_with fail
  refine (number_no _ el2).mono ?_
  rintro e w5 ⟨rfl, rfl⟩
  go_wp2_with fail
  refine (valid_no _ el0).mono ?_
  rintro e w5 ⟨rfl, rfl⟩
  go_wp2_with fail
  refine (valid_no _ elP).mono ?_
  rintro e w5 ⟨rfl, rfl⟩
  go_wp2_with fail
  refine (valid_no _ el2).mono ?_
  rintro e w5 ⟨rfl, rfl⟩
  go_wp2_with fail
  refine (valid_yes _ el1).mono ?_
  rintro e w5 ⟨rfl, rfl⟩
  go_wp2_with fail
  refine (valid_yes _ el4).mono ?_
  rintro e w5 ⟨rfl, rfl⟩
  go_wp2_with fail
  refine (valid_no _ elP1).mono ?_
  rintro e w5 ⟨rfl, rfl⟩
  go_wp2_with fail
  go_ret
  exact ⟨rfl, B⟩

/-! ### the law's own helpers -/
/-- the element of any number -/
def elem (x : Int) : Int := if elz (x % 1073741789 + 1) then x % 1073741789 + 1 else 2147483579 - (x % 1073741789 + 1)

end Go.Proofs.YtkdonlhclfbanaaDoor
