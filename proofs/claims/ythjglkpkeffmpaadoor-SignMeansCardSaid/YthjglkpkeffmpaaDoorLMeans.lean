/- THE WALK OF acequialaw11.SignMeans. -/
import Derived.Test.YthjglkpkeffmpaaDoorPoint
namespace Go.Proofs.YthjglkpkeffmpaaDoor
open Go.RowKit
set_option linter.unusedVariables false

set_option maxRecDepth 100000 in
set_option maxHeartbeats 1000000 in
theorem means_long (key E S : Int) (p : Option Addr) (n c : Nat) (w : World) (hn : 600 < n) (hc : n ≤ c) (hm : c ≤ maxLen) (htab : Tabs w) :
    Calls Tryd.prog 5 #[.int .i64 key, .slice p n c, .agg #[.int .i64 E, .int .i64 S]] w fun e w' => e = .returned (.bool true) ∧ Up w w' := by
  have HT := Lib.hid htab
  clear htab
  go_enter Tryd.func5, Tryd.ntmps5
  go_wp2_with fail
  refine calls_named0 ?_
  intro W1 hW1
  have U1 : Hid (Up w W1) := by show Up w W1; rw [hW1]; exact (Up.refl w).alloc _
  clear hW1
  refine (sane11_calls _ (HT.out.up U1.out)).mono ?_
  rintro e w2 ⟨rfl, u2⟩
  have U2 : Hid (Up w w2) := Up.trans U1.out u2
  clear u2
  go_wp2_with fail
  go_ret
  exact ⟨rfl, U2.out⟩

theorem means_out (key E S : Int) (p : Option Addr) (n c : Nat) (w : World) (hn : n ≤ 600) (hc : n ≤ c) (hm : c ≤ maxLen) (htab : Tabs w) (h : E < 0 ∨ 1073741789 ≤ E ∨ S < 0 ∨ 1073741789 ≤ S) :
    Calls Tryd.prog 5 #[.int .i64 key, .slice p n c, .agg #[.int .i64 E, .int .i64 S]] w fun e w' => e = .returned (.bool true) ∧ Up w w' := by
  have HT := Lib.hid htab
  have H := Lib.hid h
  clear htab h
  obtain ⟨bt, hbt⟩ : ∃ b, b = w.heap.size := ⟨_, rfl⟩
  go_enter Tryd.func5, Tryd.ntmps5
  go_wp2_with fail
  rw [← hbt]
  refine calls_named0 ?_
  intro W1 hW1
  have U1 : Hid (Up w W1) := by show Up w W1; rw [hW1]; exact (Up.refl w).alloc _
  have X1 : Hid (W1.heap[bt]? = some (.cells #[.int .i64 E, .int .i64 S] 24 (0, 0))) := by show _ = _; rw [hW1, heap_new hbt]
  clear hW1 hbt
  refine (sane11_calls _ (HT.out.up U1.out)).mono ?_
  rintro e w2 ⟨rfl, u2⟩
  have U2 : Hid (Up w w2) := Up.trans U1.out u2
  have x2 : w2.heap[bt]? = some (.cells #[.int .i64 E, .int .i64 S] 24 (0, 0)) := (u2.block bt (lt_of_block X1.out)).trans X1.out
  have a0 : w2.cell? ⟨bt, 0, none⟩ = some (.int .i64 E) := by rw [cell_of_row w2 bt 0 _ _ _ x2]; rfl
  have a1 : w2.cell? ⟨bt, 1, none⟩ = some (.int .i64 S) := by rw [cell_of_row w2 bt 1 _ _ _ x2]; rfl
  have X2 := Lib.hid x2
  clear u2 x2
  go_wp2_with fail
  refine (verify_out key E S _ _ H.out).mono ?_
  rintro e w4 ⟨rfl, u4⟩
  have U4 : Hid (Up w w4) := Up.trans U2.out u4
  have x4 : w4.heap[bt]? = some (.cells #[.int .i64 E, .int .i64 S] 24 (0, 0)) := (u4.block bt (lt_of_block X2.out)).trans X2.out
  clear a0 a1
  have a0 : w4.cell? ⟨bt, 0, none⟩ = some (.int .i64 E) := by rw [cell_of_row w4 bt 0 _ _ _ x4]; rfl
  have a1 : w4.cell? ⟨bt, 1, none⟩ = some (.int .i64 S) := by rw [cell_of_row w4 bt 1 _ _ _ x4]; rfl
  clear u4 x4
  by_cases g1 : E < 0
  · go_wp2_with fail
    go_ret
    exact ⟨rfl, U4.out⟩
  · by_cases g2 : 1073741789 ≤ E
    · go_wp2_with fail
      go_ret
      exact ⟨rfl, U4.out⟩
    · by_cases g3 : S < 0
      · go_wp2_with fail
        go_ret
        exact ⟨rfl, U4.out⟩
      · have g4 : 1073741789 ≤ S := by have := H.out; omega
        go_wp2_with fail
        go_ret
        exact ⟨rfl, U4.out⟩

set_option maxRecDepth 100000 in
set_option maxHeartbeats 1000000 in
theorem means_key (key E S : Int) (p : Option Addr) (n c : Nat) (w : World) (hn : n ≤ 600) (hc : n ≤ c) (hm : c ≤ maxLen) (htab : Tabs w) (h1 : 0 ≤ E) (h2 : E < 1073741789) (h3 : 0 ≤ S) (h4 : S < 1073741789) (hk : elz key = false) :
    Calls Tryd.prog 5 #[.int .i64 key, .slice p n c, .agg #[.int .i64 E, .int .i64 S]] w fun e w' => e = .returned (.bool true) ∧ Up w w' := by
  have HT := Lib.hid htab
  have VK := Lib.hid fun w => verify_key key E S (.slice p n c) w h1 h2 h3 h4 hk
  have VN := Lib.hid fun w => valid_no w hk
  clear htab hk
  obtain ⟨bt, hbt⟩ : ∃ b, b = w.heap.size := ⟨_, rfl⟩
  go_enter Tryd.func5, Tryd.ntmps5
  go_wp2_with fail
  rw [← hbt]
  refine calls_named0 ?_
  intro W1 hW1
  have U1 : Hid (Up w W1) := by show Up w W1; rw [hW1]; exact (Up.refl w).alloc _
  have X1 : Hid (W1.heap[bt]? = some (.cells #[.int .i64 E, .int .i64 S] 24 (0, 0))) := by show _ = _; rw [hW1, heap_new hbt]
  clear hW1 hbt
  refine (sane11_calls _ (HT.out.up U1.out)).mono ?_
  rintro e w2 ⟨rfl, u2⟩
  have U2 : Hid (Up w w2) := Up.trans U1.out u2
  have x2 : w2.heap[bt]? = some (.cells #[.int .i64 E, .int .i64 S] 24 (0, 0)) := (u2.block bt (lt_of_block X1.out)).trans X1.out
  have a0 : w2.cell? ⟨bt, 0, none⟩ = some (.int .i64 E) := by rw [cell_of_row w2 bt 0 _ _ _ x2]; rfl
  have a1 : w2.cell? ⟨bt, 1, none⟩ = some (.int .i64 S) := by rw [cell_of_row w2 bt 1 _ _ _ x2]; rfl
  have X2 := Lib.hid x2
  clear u2 x2
  go_wp2_with fail
  refine (VK.out _).mono ?_
  rintro e w4 ⟨rfl, u4⟩
  have U4 : Hid (Up w w4) := Up.trans U2.out u4
  have x4 : w4.heap[bt]? = some (.cells #[.int .i64 E, .int .i64 S] 24 (0, 0)) := (u4.block bt (lt_of_block X2.out)).trans X2.out
  clear a0 a1
  have a0 : w4.cell? ⟨bt, 0, none⟩ = some (.int .i64 E) := by rw [cell_of_row w4 bt 0 _ _ _ x4]; rfl
  have a1 : w4.cell? ⟨bt, 1, none⟩ = some (.int .i64 S) := by rw [cell_of_row w4 bt 1 _ _ _ x4]; rfl
  clear u4 x4
  go_wp2_with fail
  refine (VN.out _).mono ?_
  rintro e w6 ⟨rfl, rfl⟩
  go_wp2_with fail
  go_ret
  exact ⟨rfl, U4.out⟩

set_option maxRecDepth 100000 in
set_option maxHeartbeats 1000000 in
theorem means_yes (key E S : Int) (s : ByteArray) (p : Option Addr) (c : Nat) (w : World) (hn : s.size ≤ 600) (hc : s.size ≤ c) (hm : c ≤ maxLen) (hsb : SB w p s.data.toList) (htab : Tabs w) (h1 : 0 ≤ E) (h2 : E < 1073741789) (h3 : 0 ≤ S) (h4 : S < 1073741789) (hk : elz key = true) :
    Calls Tryd.prog 5 #[.int .i64 key, .slice p s.size c, .agg #[.int .i64 E, .int .i64 S]] w fun e w' => e = .returned (.bool true) ∧ Up w w' := by
  have HT := Lib.hid htab
  have HSB := Lib.hid hsb
  have hkr := elz_range hk
  have hr := sgR_lt key E S
  have VV := Lib.hid fun w (a : SB w p s.data.toList) (b : Tabs w) => verify_val key E S s p c w h1 h2 h3 h4 hk hn a b
  have VY := Lib.hid fun w => valid_yes w hk
  have PT := Lib.hid fun w => point_calls key E S w h1 h2 h3 h4 hk
  have hh := hIts_lt tSign [.inl (sgR key E S : Nat), .inl key, .inr s]
  obtain ⟨h, hhe⟩ : ∃ h, h = hIts tSign [.inl (sgR key E S : Nat), .inl key, .inr s] := ⟨_, rfl⟩
  rw [← hhe] at VV hh
  obtain ⟨r, hre⟩ : ∃ r, r = sgR key E S := ⟨_, rfl⟩
  rw [← hre] at PT hr hhe
  obtain ⟨n, hnn⟩ : ∃ n, n = s.size := ⟨_, rfl⟩
  rw [← hnn] at VV hc hn
  rw [← hnn]
  have HH := Lib.hid hhe
  have HNN := Lib.hid hnn
  clear htab hk hsb hre hhe hnn
  obtain ⟨bt, hbt⟩ : ∃ b, b = w.heap.size := ⟨_, rfl⟩
  go_enter Tryd.func5, Tryd.ntmps5
  go_wp2_with fail
  rw [← hbt]
  refine calls_named0 ?_
  intro W1 hW1
  have U1 : Hid (Up w W1) := by show Up w W1; rw [hW1]; exact (Up.refl w).alloc _
  have X1 : Hid (W1.heap[bt]? = some (.cells #[.int .i64 E, .int .i64 S] 24 (0, 0))) := by show _ = _; rw [hW1, heap_new hbt]
  clear hW1 hbt
  refine (sane11_calls _ (HT.out.up U1.out)).mono ?_
  rintro e w2 ⟨rfl, u2⟩
  have U2 : Hid (Up w w2) := Up.trans U1.out u2
  have x2 : w2.heap[bt]? = some (.cells #[.int .i64 E, .int .i64 S] 24 (0, 0)) := (u2.block bt (lt_of_block X1.out)).trans X1.out
  have a0 : w2.cell? ⟨bt, 0, none⟩ = some (.int .i64 E) := by rw [cell_of_row w2 bt 0 _ _ _ x2]; rfl
  have a1 : w2.cell? ⟨bt, 1, none⟩ = some (.int .i64 S) := by rw [cell_of_row w2 bt 1 _ _ _ x2]; rfl
  have X2 := Lib.hid x2
  clear u2 x2
  go_wp2_with fail
  refine (VV.out _ (HSB.out.up U2.out) (HT.out.up U2.out)).mono ?_
  rintro e w4 ⟨rfl, u4⟩
  have U4 : Hid (Up w w4) := Up.trans U2.out u4
  have X4 : Hid (w4.heap[bt]? = some (.cells #[.int .i64 E, .int .i64 S] 24 (0, 0))) := (u4.block bt (lt_of_block X2.out)).trans X2.out
  clear a0 a1
  have a0 : w4.cell? ⟨bt, 0, none⟩ = some (.int .i64 E) := by rw [cell_of_row w4 bt 0 _ _ _ X4.out]; rfl
  have a1 : w4.cell? ⟨bt, 1, none⟩ = some (.int .i64 S) := by rw [cell_of_row w4 bt 1 _ _ _ X4.out]; rfl
  clear u4
  go_wp2_with fail
  refine (VY.out _).mono ?_
  rintro e w6 ⟨rfl, rfl⟩
  go_wp2_with fail
  refine (PT.out _).mono ?_
  rintro e w6 ⟨rfl, u6⟩
  have U6 : Hid (Up w w6) := Up.trans U4.out u6
  have X6 : Hid (w6.heap[bt]? = some (.cells #[.int .i64 E, .int .i64 S] 24 (0, 0))) := (u6.block bt (lt_of_block X4.out)).trans X4.out
  have hcvt := run_bytes_string w6 p c s (HSB.out.up U6.out)
  rw [← HNN.out] at hcvt
  clear u6 a0 a1
  go_wp2_with fail
  refine calls_named0 ?_
  intro W7 hW7
  obtain ⟨b7, hb7⟩ : ∃ b, b = w6.heap.size := ⟨_, rfl⟩
  rw [← hb7]
  have u7 : Up w6 W7 := by rw [hW7]; exact (Up.refl w6).alloc _
  have U7 : Hid (Up w W7) := Up.trans U6.out u7
  have X7 : Hid (W7.heap[bt]? = some (.cells #[.int .i64 E, .int .i64 S] 24 (0, 0))) := (u7.block bt (lt_of_block X6.out)).trans X6.out
  obtain ⟨h', hh', hc7⟩ := encHash3 tSign (by decide) b7 r key s W7 (by rw [← HNN.out]; exact hn) (by omega) (by omega) (by rw [hW7, heap_new hb7]) (HT.out.up U7.out)
  obtain rfl : h' = h := by rw [hh', HH.out]
  clear hW7 u7 hb7 hh' hcvt
  refine hc7.mono ?_
  rintro e w8 ⟨p8, m8, c8, rfl, u8, hc8⟩
  have U8 : Hid (Up w w8) := Up.trans U7.out u8
  have X8 : Hid (w8.heap[bt]? = some (.cells #[.int .i64 E, .int .i64 S] 24 (0, 0))) := (u8.block bt (lt_of_block X7.out)).trans X7.out
  unfold tSign at hc8
  have HC8 := Lib.hid hc8
  have a0 : w8.cell? ⟨bt, 0, none⟩ = some (.int .i64 E) := by rw [cell_of_row w8 bt 0 _ _ _ X8.out]; rfl
  clear u8 hc7 hc8
  go_wp2_with fail
  have hlb : bt < w8.drew.heap.size := lt_of_block (w := w8.drew) X8.out
  have K0 : ∀ x : UpW w8.drew, x.w.cell? ⟨bt, 0, none⟩ = some (.int .i64 E) := fun x => by rw [cell_of_row x.w bt 0 _ _ _ ((x.block hlb).trans X8.out)]; rfl
  haveI := UpW.some_ w8.drew
  refine wp_region_up (by kernel_rfl) (by kernel_rfl) ?_
  repeat (quiet_step ((go_at_call 16; with_reducible exact Calls.quiet_up (HC8.out _ (Up.trans (Up.refl w8).drew (UpW.up _))))))
  refine wpQuiet_nil ?_
  rintro w9 ⟨x, hx⟩
  have U9 : Hid (Up w w9) := by show Up w w9; rw [hx]; exact Up.trans (U8.out.drew) x.up
  clear hx K0
  go_wp2_with fail
  go_ret
  exact ⟨rfl, U9.out⟩

theorem lawMeans_calls (key E S : Int) (l : List UInt8) (p : Option Addr) (c : Nat) (w : World) (hc : l.length ≤ c) (hm : c ≤ maxLen) (hsb : SB w p l) (h0 : Tab0 w) (h1 : Tab w) :
    Calls Tryd.prog 5 #[.int .i64 key, .slice p l.length c, .agg #[.int .i64 E, .int .i64 S]] w fun e w' => e = .returned (.bool true) ∧ Up w w' := by
  by_cases hn : 600 < l.length
  · exact means_long key E S p _ c w hn hc hm ⟨h0, h1⟩
  · by_cases hx : E < 0 ∨ 1073741789 ≤ E ∨ S < 0 ∨ 1073741789 ≤ S
    · exact means_out key E S p _ c w (by omega) hc hm ⟨h0, h1⟩ hx
    · cases hk : elz key with
      | false => exact means_key key E S p _ c w (by omega) hc hm ⟨h0, h1⟩ (by omega) (by omega) (by omega) (by omega) hk
      | true => exact means_yes key E S ⟨l.toArray⟩ p c w (by show l.length ≤ 600; omega) hc hm hsb ⟨h0, h1⟩ (by omega) (by omega) (by omega) (by omega) hk

end Go.Proofs.YthjglkpkeffmpaaDoor
