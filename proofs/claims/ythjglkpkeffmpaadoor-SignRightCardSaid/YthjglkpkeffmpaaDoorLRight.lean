/- THE WALK OF acequialaw11.SignRight. -/
import Derived.Test.YthjglkpkeffmpaaDoorSign4
namespace Go.Proofs.YthjglkpkeffmpaaDoor
open Go.RowKit
set_option linter.unusedVariables false

set_option maxRecDepth 100000 in
set_option maxHeartbeats 1000000 in
theorem right_long (x : Int) (p : Option Addr) (n c : Nat) (w : World) (hn : 600 < n) (hc : n ≤ c) (hm : c ≤ maxLen) (htab : Tabs w) :
    Calls Tryd.prog 4 #[.int .i64 x, .slice p n c] w fun e w' => e = .returned (.bool true) ∧ Up w w' := by
  have HT := Lib.hid htab
  clear htab
  go_enter Tryd.func4, Tryd.ntmps4
  go_wp2_with fail
  refine (sane11_calls _ HT.out).mono ?_
  rintro e w2 ⟨rfl, u2⟩
  have U2 := Lib.hid u2
  clear u2
  go_wp2_with fail
  go_ret
  exact ⟨rfl, U2.out⟩

set_option maxRecDepth 100000 in
set_option maxHeartbeats 1000000 in
theorem right_no (x : Int) (p : Option Addr) (n c : Nat) (w : World) (hx : x < 1 ∨ 1073741789 ≤ x) (hn : n ≤ 600) (hc : n ≤ c) (hm : c ≤ maxLen) (htab : Tabs w) :
    Calls Tryd.prog 4 #[.int .i64 x, .slice p n c] w fun e w' => e = .returned (.bool true) ∧ Up w w' := by
  have HT := Lib.hid htab
  have HX := Lib.hid hx
  clear htab hx
  go_enter Tryd.func4, Tryd.ntmps4
  go_wp2_with fail
  refine (sane11_calls _ HT.out).mono ?_
  rintro e w2 ⟨rfl, u2⟩
  have U2 := Lib.hid u2
  clear u2
  go_wp2_with fail
  refine (sign_no x _ _ HX.out).mono ?_
  rintro e w4 ⟨rfl, u4⟩
  have U4 : Hid (Up w w4) := Up.trans U2.out u4
  clear u4
  by_cases h : x < 1
  · go_wp2_with fail
    go_ret
    exact ⟨rfl, U4.out.alloc _⟩
  · have h2 : 1073741789 ≤ x := by have := HX.out; omega
    go_wp2_with fail
    go_ret
    exact ⟨rfl, U4.out.alloc _⟩

set_option maxRecDepth 100000 in
set_option maxHeartbeats 1000000 in
theorem right_yes (x : Nat) (s : ByteArray) (p : Option Addr) (c : Nat) (w : World) (h1 : 1 ≤ x) (h2 : x < 1073741789) (hn : s.size ≤ 600) (hc : s.size ≤ c) (hm : c ≤ maxLen) (hsb : SB w p s.data.toList) (htab : Tabs w) :
    Calls Tryd.prog 4 #[.int .i64 x, .slice p s.size c] w fun e w' => e = .returned (.bool true) ∧ Up w w' := by
  have HT := Lib.hid htab
  have HSB := Lib.hid hsb
  have SY := Lib.hid fun w (hsb : SB w p s.data.toList) (ht : Tabs w) => sign_yes x s p c w h1 h2 hn hsb ht
  have VR := Lib.hid fun w (hsb : SB w p s.data.toList) (ht : Tabs w) => verify_right x s p c w hn hsb ht
  have hE5 : (sgE x s : Int) < 1073741789 := by have := sgE_lt x s; omega
  have hS5 : (sgS x s : Int) < 1073741789 := by have := sgS_lt x s; omega
  have hE0 : 0 ≤ (sgE x s : Int) := by omega
  have hS0 : 0 ≤ (sgS x s : Int) := by omega
  have PW := Lib.hid fun w => pow_yes (n := (x : Int)) w elz4
  rw [show ((4 : Int).toNat) = 4 from rfl] at PW
  obtain ⟨E5, hE⟩ : ∃ y, y = (sgE x s : Int) := ⟨_, rfl⟩
  obtain ⟨S5, hS⟩ : ∃ y, y = (sgS x s : Int) := ⟨_, rfl⟩
  obtain ⟨ky, hk⟩ : ∃ y, y = Sq.pz 4 x := ⟨_, rfl⟩
  rw [← hE] at SY VR hE5 hE0
  rw [← hS] at SY VR hS5 hS0
  rw [← hk] at VR PW
  obtain ⟨n, hnn⟩ : ∃ n, n = s.size := ⟨_, rfl⟩
  rw [← hnn] at SY VR hn hc
  rw [← hnn]
  clear htab hsb hE hS hk hnn
  go_enter Tryd.func4, Tryd.ntmps4
  go_wp2_with fail
  refine (sane11_calls _ HT.out).mono ?_
  rintro e w2 ⟨rfl, u2⟩
  have U2 := Lib.hid u2
  clear u2
  go_wp2_with fail
  refine (SY.out _ (HSB.out.up U2.out) (HT.out.up U2.out)).mono ?_
  rintro e w4 ⟨rfl, u4⟩
  have U4 : Hid (Up w w4) := Up.trans U2.out u4
  clear u4
  go_wp2_with fail
  refine calls_named0 ?_
  intro W4 hW4
  obtain ⟨b4, hb4⟩ : ∃ b, b = w4.heap.size := ⟨_, rfl⟩
  rw [← hb4]
  have v4 : Up w4 W4 := by rw [hW4]; exact (Up.refl w4).alloc _
  have V4 : Hid (Up w W4) := Up.trans U4.out v4
  have X4 : Hid (W4.heap[b4]? = some (.cells #[.int .i64 E5, .int .i64 S5] 24 (0, 0))) := by show _ = _; rw [hW4, heap_new hb4]
  clear hW4 hb4 v4
  refine (SY.out _ (HSB.out.up V4.out) (HT.out.up V4.out)).mono ?_
  rintro e w6 ⟨rfl, u6⟩
  have U6 : Hid (Up w w6) := Up.trans V4.out u6
  have X6 : Hid (w6.heap[b4]? = some (.cells #[.int .i64 E5, .int .i64 S5] 24 (0, 0))) := (u6.block b4 (lt_of_block X4.out)).trans X4.out
  clear u6
  go_wp2_with fail
  refine calls_named0 ?_
  intro W6 hW6
  obtain ⟨b6, hb6⟩ : ∃ b, b = w6.heap.size := ⟨_, rfl⟩
  rw [← hb6]
  have v6 : Up w6 W6 := by rw [hW6]; exact (Up.refl w6).alloc _
  have V6 : Hid (Up w W6) := Up.trans U6.out v6
  have Y6 : Hid (W6.heap[b6]? = some (.cells #[.int .i64 E5, .int .i64 S5] 24 (0, 0))) := by show _ = _; rw [hW6, heap_new hb6]
  have Z6 : Hid (W6.heap[b4]? = some (.cells #[.int .i64 E5, .int .i64 S5] 24 (0, 0))) := (v6.block b4 (lt_of_block X6.out)).trans X6.out
  clear hW6 hb6 v6
  refine (PW.out _).mono ?_
  rintro e w8 ⟨rfl, u8⟩
  have u8 : Up W6 w8 := u8
  have U8 : Hid (Up w w8) := Up.trans V6.out u8
  have y8 : w8.heap[b6]? = some (.cells #[.int .i64 E5, .int .i64 S5] 24 (0, 0)) := (u8.block b6 (lt_of_block Y6.out)).trans Y6.out
  have x8 : w8.heap[b4]? = some (.cells #[.int .i64 E5, .int .i64 S5] 24 (0, 0)) := (u8.block b4 (lt_of_block Z6.out)).trans Z6.out
  have a0 : w8.cell? ⟨b4, 0, none⟩ = some (.int .i64 E5) := by rw [cell_of_row w8 b4 0 _ _ _ x8]; rfl
  have a1 : w8.cell? ⟨b4, 1, none⟩ = some (.int .i64 S5) := by rw [cell_of_row w8 b4 1 _ _ _ x8]; rfl
  have b0 : w8.cell? ⟨b6, 0, none⟩ = some (.int .i64 E5) := by rw [cell_of_row w8 b6 0 _ _ _ y8]; rfl
  have b1 : w8.cell? ⟨b6, 1, none⟩ = some (.int .i64 S5) := by rw [cell_of_row w8 b6 1 _ _ _ y8]; rfl
  clear u8 y8 x8
  go_wp2_with fail
  refine (VR.out _ (HSB.out.up U8.out) (HT.out.up U8.out)).mono ?_
  rintro e w9 ⟨rfl, u9⟩
  have U9 : Hid (Up w w9) := Up.trans U8.out u9
  clear u9 a0 a1 b0 b1
  go_wp2_with fail
  go_ret
  exact ⟨rfl, U9.out⟩

theorem lawRight_calls (x : Int) (l : List UInt8) (p : Option Addr) (c : Nat) (w : World) (hc : l.length ≤ c) (hm : c ≤ maxLen) (hsb : SB w p l) (h0 : Tab0 w) (h1 : Tab w) :
    Calls Tryd.prog 4 #[.int .i64 x, .slice p l.length c] w fun e w' => e = .returned (.bool true) ∧ Up w w' := by
  by_cases hn : 600 < l.length
  · exact right_long x p _ c w hn hc hm ⟨h0, h1⟩
  · by_cases hx : x < 1 ∨ 1073741789 ≤ x
    · exact right_no x p _ c w hx (by omega) hc hm ⟨h0, h1⟩
    · obtain ⟨y, rfl⟩ := Int.eq_ofNat_of_zero_le (show 0 ≤ x by omega)
      exact right_yes y ⟨l.toArray⟩ p c w (by omega) (by omega) (by show l.length ≤ 600; omega) hc hm hsb ⟨h0, h1⟩

end Go.Proofs.YthjglkpkeffmpaaDoor
