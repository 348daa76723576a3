/- THE WALK OF acequialaw11.SignSpec. -/
import Derived.Test.YthjglkpkeffmpaaDoorRef11C
import Derived.Test.YthjglkpkeffmpaaDoorRef11D
namespace Go.Proofs.YthjglkpkeffmpaaDoor
open Go.RowKit
set_option linter.unusedVariables false

set_option maxRecDepth 100000 in
set_option maxHeartbeats 1000000 in
theorem spec_long (x key E S : Int) (p : Option Addr) (n c : Nat) (w : World) (hn : 600 < n) (hc : n ≤ c) (hm : c ≤ maxLen) (htab : Tabs w) :
    Calls Tryd.prog 3 #[.int .i64 x, .int .i64 key, .slice p n c, .agg #[.int .i64 E, .int .i64 S]] w fun e w' => e = .returned (.bool true) ∧ Up w w' := by
  have HT := Lib.hid htab
  clear htab
  go_enter Tryd.func3, Tryd.ntmps3
  go_wp2_with fail
  refine calls_nm ?_
  intro W1 hW1
  have U1 : Hid (Up w W1) := by show Up w W1; rw [hW1]; exact (Up.refl w).alloc _
  clear hW1
  refine (sane11_calls _ (HT.out.up U1.out)).mono ?_
  rintro e w2 ⟨rfl, u2⟩
  have U2 : Hid (Up w w2) := Up.trans U1.out u2
  clear u2
  go_wp2_with fail
  go_ret
  exact ⟨rfl, U2.out⟩

/-- both Signs say the same -/
theorem both_sign (x : Int) (s : ByteArray) (p : Option Addr) (c : Nat) (hs : s.size ≤ 600) : ∃ a b e : Int,
    (∀ w, SB w p s.data.toList → Tabs w → Calls Tryd.prog 8 #[.int .i64 x, .slice p s.size c] w fun r w' => r = .returned (.tuple #[.agg #[.int .i64 a, .int .i64 b], .int .i64 e]) ∧ Up w w') ∧
    (∀ w, SB w p s.data.toList → Calls Tryd.prog 9 #[.int .i64 x, .slice p s.size c] w fun r w' => r = .returned (.tuple #[.agg #[.int .i64 a, .int .i64 b], .int .i64 e]) ∧ Up w w') := by
  by_cases hx : x < 1 ∨ 1073741789 ≤ x
  · exact ⟨0, 0, 110, fun w _ _ => sign_no x _ w hx, fun w _ => rsign_no x _ w hx⟩
  · obtain ⟨y, rfl⟩ := Int.eq_ofNat_of_zero_le (show 0 ≤ x by omega)
    exact ⟨_, _, _, fun w a b => sign_yes y s p c w (by omega) (by omega) hs a b, fun w a => rsign_yes y s p c w (by omega) (by omega) hs a⟩

set_option maxRecDepth 100000 in
set_option maxHeartbeats 1000000 in
theorem spec_main (x key E S : Int) (s : ByteArray) (p : Option Addr) (c : Nat) (w : World) (hn : s.size ≤ 600) (hc : s.size ≤ c) (hm : c ≤ maxLen) (hsb : SB w p s.data.toList) (htab : Tabs w) :
    Calls Tryd.prog 3 #[.int .i64 x, .int .i64 key, .slice p s.size c, .agg #[.int .i64 E, .int .i64 S]] w fun e w' => e = .returned (.bool true) ∧ Up w w' := by
  have HT := Lib.hid htab
  have HS := Lib.hid hsb
  obtain ⟨a, b, e, hS1, hS2⟩ := both_sign x s p c hn
  have S1 := Lib.hid hS1
  have S2 := Lib.hid hS2
  have V1 := Lib.hid fun w (a : SB w p s.data.toList) (b : Tabs w) => verify_any key E S s p c w hn a b
  have V2 := Lib.hid fun w (a : SB w p s.data.toList) => rverify_any key E S s p c w hn a
  obtain ⟨k, hk⟩ : ∃ k, k = vOk key E S s := ⟨_, rfl⟩
  rw [← hk] at V1 V2
  obtain ⟨n, hnn⟩ : ∃ n, n = s.size := ⟨_, rfl⟩
  rw [← hnn] at S1 S2 V1 V2 hn hc
  rw [← hnn]
  clear htab hsb hS1 hS2 hk hnn
  obtain ⟨bt, hbt⟩ : ∃ b, b = w.heap.size := ⟨_, rfl⟩
  go_enter Tryd.func3, Tryd.ntmps3
  go_wp2_with fail
  rw [← hbt]
  refine calls_nm ?_
  intro W1 hW1
  have U1 : Hid (Up w W1) := by show Up w W1; rw [hW1]; exact (Up.refl w).alloc _
  have X1 : Hid (W1.heap[bt]? = some (.cells #[.int .i64 E, .int .i64 S] 24 (0, 0))) := by show _ = _; rw [hW1, heap_new hbt]
  clear hW1 hbt
  refine (sane11_calls _ (HT.out.up U1.out)).mono ?_
  rintro r w2 ⟨rfl, u2⟩
  have U2 : Hid (Up w w2) := Up.trans U1.out u2
  have X2 : Hid (w2.heap[bt]? = some (.cells #[.int .i64 E, .int .i64 S] 24 (0, 0))) := (u2.block bt (lt_of_block X1.out)).trans X1.out
  clear u2
  go_wp2_with fail
  refine (S1.out _ (HS.out.up U2.out) (HT.out.up U2.out)).mono ?_
  rintro r w3 ⟨rfl, u3⟩
  have U3 : Hid (Up w w3) := Up.trans U2.out u3
  have X3 : Hid (w3.heap[bt]? = some (.cells #[.int .i64 E, .int .i64 S] 24 (0, 0))) := (u3.block bt (lt_of_block X2.out)).trans X2.out
  clear u3
  go_wp2_with fail
  refine calls_nm ?_
  intro W3 hW3
  obtain ⟨b3, hb3⟩ : ∃ b, b = w3.heap.size := ⟨_, rfl⟩
  rw [← hb3]
  have v3 : Up w3 W3 := by rw [hW3]; exact (Up.refl w3).alloc _
  have V3 : Hid (Up w W3) := Up.trans U3.out v3
  have Y3 : Hid (W3.heap[b3]? = some (.cells #[.int .i64 a, .int .i64 b] 24 (0, 0))) := by show _ = _; rw [hW3, heap_new hb3]
  have Z3 : Hid (W3.heap[bt]? = some (.cells #[.int .i64 E, .int .i64 S] 24 (0, 0))) := (v3.block bt (lt_of_block X3.out)).trans X3.out
  clear hW3 hb3 v3
  refine (S2.out _ (HS.out.up V3.out)).mono ?_
  rintro r w4 ⟨rfl, u4⟩
  have U4 : Hid (Up w w4) := Up.trans V3.out u4
  have Y4 : Hid (w4.heap[b3]? = some (.cells #[.int .i64 a, .int .i64 b] 24 (0, 0))) := (u4.block b3 (lt_of_block Y3.out)).trans Y3.out
  have Z4 : Hid (w4.heap[bt]? = some (.cells #[.int .i64 E, .int .i64 S] 24 (0, 0))) := (u4.block bt (lt_of_block Z3.out)).trans Z3.out
  have a0 : w4.cell? ⟨bt, 0, none⟩ = some (.int .i64 E) := by rw [cell_of_row w4 bt 0 _ _ _ Z4.out]; rfl
  have a1 : w4.cell? ⟨bt, 1, none⟩ = some (.int .i64 S) := by rw [cell_of_row w4 bt 1 _ _ _ Z4.out]; rfl
  have b0 : w4.cell? ⟨b3, 0, none⟩ = some (.int .i64 a) := by rw [cell_of_row w4 b3 0 _ _ _ Y4.out]; rfl
  have b1 : w4.cell? ⟨b3, 1, none⟩ = some (.int .i64 b) := by rw [cell_of_row w4 b3 1 _ _ _ Y4.out]; rfl
  clear u4
  go_wp2_with fail
  refine wp_named ?_
  intro W5 hW5
  obtain ⟨b5, hb5⟩ : ∃ b, b = w4.heap.size := ⟨_, rfl⟩
  rw [← hb5]
  have v5 : Up w4 W5 := by rw [hW5]; exact (Up.refl w4).alloc _
  have V5 : Hid (Up w W5) := Up.trans U4.out v5
  have Q5 : Hid (W5.heap[b5]? = some (.cells #[.int .i64 a, .int .i64 b] 24 (0, 0))) := by show _ = _; rw [hW5, heap_new hb5]
  have Y5 : Hid (W5.heap[b3]? = some (.cells #[.int .i64 a, .int .i64 b] 24 (0, 0))) := (v5.block b3 (lt_of_block Y4.out)).trans Y4.out
  have Z5 : Hid (W5.heap[bt]? = some (.cells #[.int .i64 E, .int .i64 S] 24 (0, 0))) := (v5.block bt (lt_of_block Z4.out)).trans Z4.out
  clear hW5 hb5 v5 a0 a1 b0 b1
  have K0 : ∀ x : UpW W5.drew, x.w.cell? ⟨bt, 0, none⟩ = some (.int .i64 E) := fun x => by rw [cell_of_row x.w bt 0 _ _ _ ((x.block (lt_of_block (w := W5.drew) Z5.out)).trans Z5.out)]; rfl
  have K1 : ∀ x : UpW W5.drew, x.w.cell? ⟨bt, 1, none⟩ = some (.int .i64 S) := fun x => by rw [cell_of_row x.w bt 1 _ _ _ ((x.block (lt_of_block (w := W5.drew) Z5.out)).trans Z5.out)]; rfl
  have K2 : ∀ x : UpW W5.drew, x.w.cell? ⟨b3, 0, none⟩ = some (.int .i64 a) := fun x => by rw [cell_of_row x.w b3 0 _ _ _ ((x.block (lt_of_block (w := W5.drew) Y5.out)).trans Y5.out)]; rfl
  have K3 : ∀ x : UpW W5.drew, x.w.cell? ⟨b3, 1, none⟩ = some (.int .i64 b) := fun x => by rw [cell_of_row x.w b3 1 _ _ _ ((x.block (lt_of_block (w := W5.drew) Y5.out)).trans Y5.out)]; rfl
  have K4 : ∀ x : UpW W5.drew, x.w.cell? ⟨b5, 0, none⟩ = some (.int .i64 a) := fun x => by rw [cell_of_row x.w b5 0 _ _ _ ((x.block (lt_of_block (w := W5.drew) Q5.out)).trans Q5.out)]; rfl
  have K5 : ∀ x : UpW W5.drew, x.w.cell? ⟨b5, 1, none⟩ = some (.int .i64 b) := fun x => by rw [cell_of_row x.w b5 1 _ _ _ ((x.block (lt_of_block (w := W5.drew) Q5.out)).trans Q5.out)]; rfl
  haveI := UpW.some_ W5.drew
  refine wp_region_up (by kernel_rfl) (by kernel_rfl) ?_
  repeat (first | quiet_step ((go_at_call 10; with_reducible exact Calls.quiet_up (V1.out _ (HS.out.up (Up.trans V5.out (Up.trans (Up.refl W5).drew (UpW.up _)))) (HT.out.up (Up.trans V5.out (Up.trans (Up.refl W5).drew (UpW.up _))))))) | quiet_step ((go_at_call 11; with_reducible exact Calls.quiet_up (V2.out _ (HS.out.up (Up.trans V5.out (Up.trans (Up.refl W5).drew (UpW.up _))))))))
  refine wpQuiet_nil ?_
  rintro w9 ⟨x, hx⟩
  have U9 : Hid (Up w w9) := by show Up w w9; rw [hx]; exact Up.trans (V5.out.drew) x.up
  clear hx K0 K1 K2 K3 K4 K5
  go_wp2_with fail
  go_ret
  exact ⟨rfl, U9.out⟩

theorem lawSpec_calls (x key E S : Int) (l : List UInt8) (p : Option Addr) (c : Nat) (w : World) (hc : l.length ≤ c) (hm : c ≤ maxLen) (hsb : SB w p l) (h0 : Tab0 w) (h1 : Tab w) :
    Calls Tryd.prog 3 #[.int .i64 x, .int .i64 key, .slice p l.length c, .agg #[.int .i64 E, .int .i64 S]] w fun e w' => e = .returned (.bool true) ∧ Up w w' := by
  by_cases hn : 600 < l.length
  · exact spec_long x key E S p _ c w hn hc hm ⟨h0, h1⟩
  · exact spec_main x key E S ⟨l.toArray⟩ p c w (by show l.length ≤ 600; omega) hc hm hsb ⟨h0, h1⟩

end Go.Proofs.YthjglkpkeffmpaaDoor
