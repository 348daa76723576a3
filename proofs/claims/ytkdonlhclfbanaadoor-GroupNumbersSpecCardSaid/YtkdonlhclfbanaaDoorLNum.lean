/- THE WALK OF acequialaw10.GroupNumbersSpec. -/
import Derived.Test.YtkdonlhclfbanaaDoorR10H
import Derived.Test.YtkdonlhclfbanaaDoorRef10E
import Derived.Test.YtkdonlhclfbanaaDoorSaneD
namespace Go.Proofs.YtkdonlhclfbanaaDoor
open Go.RowKit
set_option linter.unusedVariables false

theorem both_element (n : Int) : ∃ x e : Int, (∀ w, Calls Tryd.prog 6 #[.int .i64 n] w fun r w' => r = .returned (.tuple #[.int .i64 x, .int .i64 e]) ∧ w = w') ∧
    (∀ w, Calls Tryd.prog 7 #[.int .i64 n] w fun r w' => r = .returned (.tuple #[.int .i64 x, .int .i64 e]) ∧ w = w') := by
  by_cases h : n < 1 ∨ 1073741789 < n
  · exact ⟨_, _, fun w => element_no w h, fun w => ref_element_no w h⟩
  · exact ⟨_, _, fun w => element_yes w (by omega) (by omega), fun w => ref_element_yes w (by omega) (by omega)⟩

theorem both_number (n : Int) : ∃ x e : Int, (∀ w, Calls Tryd.prog 8 #[.int .i64 n] w fun r w' => r = .returned (.tuple #[.int .i64 x, .int .i64 e]) ∧ w = w') ∧
    (∀ w, Calls Tryd.prog 9 #[.int .i64 n] w fun r w' => r = .returned (.tuple #[.int .i64 x, .int .i64 e]) ∧ w = w') := by
  cases h : elz n with
  | false => exact ⟨_, _, fun w => number_no w h, fun w => ref_number_no w h⟩
  | true => exact ⟨_, _, fun w => number_yes w h, fun w => ref_number_yes w h⟩

set_option maxRecDepth 100000 in
set_option maxHeartbeats 1000000 in
theorem lawNum_calls (i : Int) (s : ByteArray) (p : Option Addr) (cap : Nat) (l : List UInt8) (w : World) (hss : (s.size : Int) ≤ 9223372036854775807) (hcap : l.length ≤ cap) (hm : cap ≤ maxLen) (hb : SB w p l) (ht0 : Tab0 w) (ht1 : Tab w) :
    Calls Tryd.prog 3 #[.int .i64 i, .string s, .slice p l.length cap] w fun e w' => e = .returned (.bool true) ∧ Up w w' := by
  have HM := Lib.hid hm
  have HB := Lib.hid hb
  have HT0 := Lib.hid ht0
  have HT1 := Lib.hid ht1
  clear hb ht0 ht1 hm
  obtain ⟨x, e, hE1, hE2⟩ := both_element i
  obtain ⟨m, g, hN1, hN2⟩ := both_number i
  have E1 := Lib.hid hE1
  have E2 := Lib.hid hE2
  have N1 := Lib.hid hN1
  have N2 := Lib.hid hN2
  obtain ⟨h, hh⟩ : ∃ h, h = hn (Sha.tagged s.data.toList l) := ⟨_, rfl⟩
  have hH := hash_calls s p cap l
  have hR := rhash_calls s p cap l
  rw [← hh] at hH hR
  obtain ⟨n, hn⟩ : ∃ n, n = l.length := ⟨_, rfl⟩
  rw [← hn] at hcap hH hR
  rw [← hn]
  have HH := Lib.hid hH
  have HR := Lib.hid hR
  have HN := Lib.hid hn
  clear hE1 hE2 hN1 hN2 hh hH hR hn
  go_enter Tryd.func3, Tryd.ntmps3
  go_wp2_with fail
  refine (sane_calls _).mono ?_
  rintro r w1 ⟨rfl, u1⟩
  have hu1 : Hid (Up w w1) := u1
  clear u1
  by_cases hnn : n ≤ 2000
  · by_cases hs : s.size ≤ 200
    · go_wp2_with fail
      refine (E1.out _).mono ?_
      rintro r w2 ⟨rfl, rfl⟩
      go_wp2_with fail
      refine (E2.out _).mono ?_
      rintro r w2 ⟨rfl, rfl⟩
      go_wp2_with fail
      refine (N1.out _).mono ?_
      rintro r w2 ⟨rfl, rfl⟩
      go_wp2_with fail
      refine (N2.out _).mono ?_
      rintro r w2 ⟨rfl, rfl⟩
      have t01 : Tab0 w1 := HT0.out.kept (hu1.out.block _ HT0.out.lt)
      have t11 : Tab w1 := HT1.out.kept (hu1.out.block _ HT1.out.lt)
      have sb1 : SB w1 p l := HB.out.up hu1.out
      have h1 := Lib.hid (HH.out w1 hs hnn hcap HM.out sb1 t01 t11)
      have SB1 := Lib.hid sb1
      clear t01 t11 sb1
      go_wp2_with fail
      refine h1.out.mono ?_
      rintro r w3 ⟨rfl, u3⟩
      have hu3 : Hid (Up w w3) := Up.trans hu1.out u3
      have h3 := Lib.hid (HR.out w3 hs (by omega) hcap HM.out (SB1.out.up u3))
      clear u3
      go_wp2_with fail
      refine h3.out.mono ?_
      rintro r w4 ⟨rfl, u4⟩
      have hu4 : Hid (Up w w4) := Up.trans hu3.out u4
      clear u4
      go_wp2_with fail
      go_ret
      exact ⟨rfl, hu4.out⟩
    · go_wp2_with fail
      go_ret
      exact ⟨rfl, hu1.out⟩
  · go_wp2_with fail
    go_ret
    exact ⟨rfl, hu1.out⟩

end Go.Proofs.YtkdonlhclfbanaaDoor
