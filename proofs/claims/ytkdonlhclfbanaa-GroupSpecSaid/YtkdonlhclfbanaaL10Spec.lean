/- The walk of acequialaw10.GroupSpec: for all ints it returns true and turns nothing that was there. -/
import Derived.Test.YtkdonlhclfbanaaRef10
namespace Go.Proofs.Ytkdonlhclfbanaa
open Go.RowKit Go.Shelf

set_option maxRecDepth 100000 in
set_option maxHeartbeats 1000000 in
theorem GroupSpec_walk (a b n : Int) (w : World) (_ : -9223372036854775808 ≤ a) (_ : a ≤ 9223372036854775807) (_ : -9223372036854775808 ≤ b) (_ : b ≤ 9223372036854775807) (_ : -9223372036854775808 ≤ n) (_ : n ≤ 9223372036854775807) :
    Calls Try.prog 3 #[.int .i64 a, .int .i64 b, .int .i64 n] w fun e w' => e = .returned (.bool true) ∧ Below w.heap.size w w' := by
  cases ha : elz a with
  | false =>
    have M1 := Lib.hid fun w => mul_no (b := b) w (by rw [ha]; rfl)
    have M2 := Lib.hid fun w => ref_mul_no (b := b) w (by rw [ha]; rfl)
    have P1 := Lib.hid fun w => pow_no (n := n) w ha
    have P2 := Lib.hid fun w => ref_pow_no (n := n) w ha
    have V1 := Lib.hid fun w => valid_no w ha
    have V2 := Lib.hid fun w => ref_valid_no w ha
    clear ha
    go_enter Try.func3, Try.ntmps3
    go_wp2_with fail
    refine (sane_calls _).mono ?_
    rintro e w1 ⟨rfl, b1⟩
    go_wp2_with fail
    refine (M1.out _).mono ?_
    rintro e w2 ⟨rfl, rfl⟩
    go_wp2_with fail
    refine (M2.out _).mono ?_
    rintro e w3 ⟨rfl, rfl⟩
    go_wp2_with fail
    refine (P1.out _).mono ?_
    rintro e w4 ⟨rfl, b4⟩
    go_wp2_with fail
    refine (P2.out _).mono ?_
    rintro e w5 ⟨rfl, rfl⟩
    go_wp2_with fail
    refine (V1.out _).mono ?_
    rintro e w6 ⟨rfl, rfl⟩
    go_wp2_with fail
    refine (V2.out _).mono ?_
    rintro e w7 ⟨rfl, rfl⟩
    go_wp2_with fail
    go_ret
    exact ⟨rfl, (b1).trans (b4.mono (by have := b1.size; omega))⟩
  | true =>
    have P1 := Lib.hid fun w => pow_yes (n := n) w ha
    have P2 := Lib.hid fun w => ref_pow_yes (n := n) w ha
    have V1 := Lib.hid fun w => valid_yes w ha
    have V2 := Lib.hid fun w => ref_valid_yes w ha
    generalize Sq.pz a.toNat n = p at *
    cases hb : elz b with
    | false =>
      have M1 := Lib.hid fun w => mul_no (a := a) (b := b) w (by rw [ha, hb]; rfl)
      have M2 := Lib.hid fun w => ref_mul_no (a := a) (b := b) w (by rw [ha, hb]; rfl)
      clear ha hb
      go_enter Try.func3, Try.ntmps3
      go_wp2_with fail
      refine (sane_calls _).mono ?_
      rintro e w1 ⟨rfl, b1⟩
      go_wp2_with fail
      refine (M1.out _).mono ?_
      rintro e w2 ⟨rfl, rfl⟩
      go_wp2_with fail
      refine (M2.out _).mono ?_
      rintro e w3 ⟨rfl, rfl⟩
      go_wp2_with fail
      refine (P1.out _).mono ?_
      rintro e w4 ⟨rfl, b4⟩
      go_wp2_with fail
      refine (P2.out _).mono ?_
      rintro e w5 ⟨rfl, rfl⟩
      go_wp2_with fail
      refine (V1.out _).mono ?_
      rintro e w6 ⟨rfl, rfl⟩
      go_wp2_with fail
      refine (V2.out _).mono ?_
      rintro e w7 ⟨rfl, rfl⟩
      go_wp2_with fail
      go_ret
      exact ⟨rfl, (b1).trans (b4.mono (by have := b1.size; omega))⟩
    | true =>
      have M1 := Lib.hid fun w => mul_yes w ha hb
      have M2 := Lib.hid fun w => ref_mul_yes w ha hb
      clear ha hb
      go_enter Try.func3, Try.ntmps3
      go_wp2_with fail
      refine (sane_calls _).mono ?_
      rintro e w1 ⟨rfl, b1⟩
      go_wp2_with fail
      refine (M1.out _).mono ?_
      rintro e w2 ⟨rfl, rfl⟩
      go_wp2_with fail
      refine (M2.out _).mono ?_
      rintro e w3 ⟨rfl, rfl⟩
      go_wp2_with fail
      refine (P1.out _).mono ?_
      rintro e w4 ⟨rfl, b4⟩
      go_wp2_with fail
      refine (P2.out _).mono ?_
      rintro e w5 ⟨rfl, rfl⟩
      go_wp2_with fail
      refine (V1.out _).mono ?_
      rintro e w6 ⟨rfl, rfl⟩
      go_wp2_with fail
      refine (V2.out _).mono ?_
      rintro e w7 ⟨rfl, rfl⟩
      go_wp2_with fail
      go_ret
      exact ⟨rfl, (b1).trans (b4.mono (by have := b1.size; omega))⟩

end Go.Proofs.Ytkdonlhclfbanaa
