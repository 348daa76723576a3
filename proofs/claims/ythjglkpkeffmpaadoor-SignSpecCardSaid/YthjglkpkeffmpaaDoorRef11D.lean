/- The walk of the reference acequiaref11's Verify. -/
import Derived.Test.YthjglkpkeffmpaaDoorRef11B
import Derived.Test.YthjglkpkeffmpaaDoorLTwice
namespace Go.Proofs.YthjglkpkeffmpaaDoor
open Go.RowKit
set_option linter.unusedVariables false

set_option maxRecDepth 100000 in
set_option maxHeartbeats 1000000 in
theorem rverify_key (key E S : Int) (v : Value) (w : World) (hk : elz key = false) :
    Calls Tryd.prog 11 #[.int .i64 key, v, .agg #[.int .i64 E, .int .i64 S]] w fun e w' => e = .returned (.bool false) ∧ Up w w' := by
  have V := Lib.hid fun w => ref_valid_no w hk
  clear hk
  obtain ⟨bt, hbt⟩ : ∃ b, b = w.heap.size := ⟨_, rfl⟩
  go_enter Tryd.func11, Tryd.ntmps11
  go_wp2_with fail
  refine calls_nm ?_
  intro W hW
  rw [← hbt]
  have U : Hid (Up w W) := by show Up w W; rw [hW]; exact (Up.refl w).alloc _
  clear hW hbt
  refine (V.out _).mono ?_
  rintro e w2 ⟨rfl, rfl⟩
  go_wp2_with fail
  go_ret
  exact ⟨rfl, U.out⟩

set_option maxRecDepth 100000 in
set_option maxHeartbeats 1000000 in
theorem rverify_out (key E S : Int) (v : Value) (w : World) (hk : elz key = true) (h : E < 0 ∨ 1073741789 ≤ E ∨ S < 0 ∨ 1073741789 ≤ S) :
    Calls Tryd.prog 11 #[.int .i64 key, v, .agg #[.int .i64 E, .int .i64 S]] w fun e w' => e = .returned (.bool false) ∧ Up w w' := by
  have V := Lib.hid fun w => ref_valid_yes w hk
  have H := Lib.hid h
  clear hk h
  obtain ⟨bt, hbt⟩ : ∃ b, b = w.heap.size := ⟨_, rfl⟩
  go_enter Tryd.func11, Tryd.ntmps11
  go_wp2_with fail
  refine calls_nm ?_
  intro W hW
  rw [← hbt]
  have U : Hid (Up w W) := by show Up w W; rw [hW]; exact (Up.refl w).alloc _
  have T : Hid (W.heap[bt]? = some (.cells #[.int .i64 E, .int .i64 S] 24 (0, 0))) := by show _ = _; rw [hW, heap_new hbt]
  clear hW hbt
  refine (V.out _).mono ?_
  rintro e w2 ⟨rfl, rfl⟩
  have a0 : W.cell? ⟨bt, 0, none⟩ = some (.int .i64 E) := by rw [cell_of_row W bt 0 _ _ _ T.out]; rfl
  have a1 : W.cell? ⟨bt, 1, none⟩ = some (.int .i64 S) := by rw [cell_of_row W bt 1 _ _ _ T.out]; rfl
  by_cases g1 : E < 0
  · go_wp2_with fail
    go_ret
    exact ⟨rfl, U.out⟩
  · by_cases g2 : 1073741789 ≤ E
    · go_wp2_with fail
      go_ret
      exact ⟨rfl, U.out⟩
    · by_cases g3 : S < 0
      · go_wp2_with fail
        go_ret
        exact ⟨rfl, U.out⟩
      · have g4 : 1073741789 ≤ S := by have := H.out; omega
        go_wp2_with fail
        go_ret
        exact ⟨rfl, U.out⟩

set_option maxRecDepth 100000 in
set_option maxHeartbeats 1000000 in
theorem rverify_val (key E S : Int) (s : ByteArray) (p : Option Addr) (c : Nat) (w : World) (h1 : 0 ≤ E) (h2 : E < 1073741789) (h3 : 0 ≤ S) (h4 : S < 1073741789) (hk : elz key = true) (hs : s.size ≤ 600) (hsb : SB w p s.data.toList) :
    Calls Tryd.prog 11 #[.int .i64 key, .slice p s.size c, .agg #[.int .i64 E, .int .i64 S]] w fun e w' => e = .returned (.bool (E == (hIts tSign [.inl (sgR key E S : Nat), .inl key, .inr s] : Nat))) ∧ Up w w' := by
  have V := Lib.hid fun w => ref_valid_yes w hk
  have HS := Lib.hid hsb
  have hkr := elz_range hk
  have hr := sgR_lt key E S
  have PT := Lib.hid fun w => rpoint_calls key E S w h1 h2 h3 h4 hk
  have RH := Lib.hid fun w (a : SB w p s.data.toList) => rhash11_calls (sgR key E S : Nat) key s p c w hs a (by omega) (by omega)
  obtain ⟨h, hh⟩ : ∃ h, h = hIts tSign [.inl (sgR key E S : Nat), .inl key, .inr s] := ⟨_, rfl⟩
  rw [← hh] at RH
  rw [← hh]
  obtain ⟨r, hre⟩ : ∃ r, r = sgR key E S := ⟨_, rfl⟩
  rw [← hre] at PT RH hr
  obtain ⟨n, hn⟩ : ∃ n, n = s.size := ⟨_, rfl⟩
  rw [← hn] at RH
  rw [← hn]
  clear hk hsb hh hre hn
  obtain ⟨bt, hbt⟩ : ∃ b, b = w.heap.size := ⟨_, rfl⟩
  go_enter Tryd.func11, Tryd.ntmps11
  go_wp2_with fail
  refine calls_nm ?_
  intro W hW
  rw [← hbt]
  have U : Hid (Up w W) := by show Up w W; rw [hW]; exact (Up.refl w).alloc _
  have T : Hid (W.heap[bt]? = some (.cells #[.int .i64 E, .int .i64 S] 24 (0, 0))) := by show _ = _; rw [hW, heap_new hbt]
  clear hW hbt
  refine (V.out _).mono ?_
  rintro e w2 ⟨rfl, rfl⟩
  have a0 : W.cell? ⟨bt, 0, none⟩ = some (.int .i64 E) := by rw [cell_of_row W bt 0 _ _ _ T.out]; rfl
  have a1 : W.cell? ⟨bt, 1, none⟩ = some (.int .i64 S) := by rw [cell_of_row W bt 1 _ _ _ T.out]; rfl
  go_wp2_with fail
  have hlb : bt < W.drew.heap.size := lt_of_block (w := W.drew) T.out
  have K0 : ∀ x : UpW W.drew, x.w.cell? ⟨bt, 0, none⟩ = some (.int .i64 E) := fun x => by rw [cell_of_row x.w bt 0 _ _ _ ((x.block hlb).trans T.out)]; rfl
  have K1 : ∀ x : UpW W.drew, x.w.cell? ⟨bt, 1, none⟩ = some (.int .i64 S) := fun x => by rw [cell_of_row x.w bt 1 _ _ _ ((x.block hlb).trans T.out)]; rfl
  haveI := UpW.some_ W.drew
  refine wp_region_up (by kernel_rfl) (by kernel_rfl) ?_
  repeat (first | quiet_step ((go_at_call 33; with_reducible exact Calls.quiet_up (PT.out _))) | quiet_step ((go_at_call 29; with_reducible exact Calls.quiet_up (RH.out _ (HS.out.up (Up.trans U.out (Up.trans (Up.refl W).drew (UpW.up _))))))))
  refine wpQuiet_nil ?_
  rintro w9 ⟨x, hx⟩
  have U9 : Hid (Up w w9) := by show Up w w9; rw [hx]; exact Up.trans (U.out.drew) x.up
  clear hx K0 K1 a0 a1
  go_wp2_with fail
  go_ret
  exact ⟨rfl, U9.out⟩

theorem rverify_any (key E S : Int) (s : ByteArray) (p : Option Addr) (c : Nat) (w : World) (hs : s.size ≤ 600) (hsb : SB w p s.data.toList) :
    Calls Tryd.prog 11 #[.int .i64 key, .slice p s.size c, .agg #[.int .i64 E, .int .i64 S]] w fun e w' => e = .returned (.bool (vOk key E S s)) ∧ Up w w' := by
  cases hk : elz key with
  | false =>
    rw [show vOk key E S s = false by simp [vOk, hk]]
    exact rverify_key key E S _ w hk
  | true =>
    by_cases h : 0 ≤ E ∧ E < 1073741789 ∧ 0 ≤ S ∧ S < 1073741789
    · rw [show vOk key E S s = (E == (hIts tSign [.inl (sgR key E S : Nat), .inl key, .inr s] : Nat)) by unfold vOk; rw [hk, decide_eq_true h]; rfl]
      exact rverify_val key E S s p c w h.1 h.2.1 h.2.2.1 h.2.2.2 hk hs hsb
    · rw [show vOk key E S s = false by unfold vOk; rw [decide_eq_false h]; rfl]
      exact rverify_out key E S _ w hk (by omega)

end Go.Proofs.YthjglkpkeffmpaaDoor
