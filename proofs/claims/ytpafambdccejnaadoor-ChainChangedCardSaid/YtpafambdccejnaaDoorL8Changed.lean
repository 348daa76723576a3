/- THE WALK OF acequialaw08.ChainChanged. -/
import Derived.Test.YtpafambdccejnaaDoorL8Set
namespace Go.Proofs.YtpafambdccejnaaDoor
open Go.RowKit
set_option linter.unusedVariables false

set_option maxHeartbeats 2000000 in
theorem changed_few (p : Option Addr) (n c at' : Nat) (D2 : Array Value) (ls : List Lk) (x : Lk) (w : World) (ha : In w p n c ls) (hxw : x.wf) (hxv : LkV w D2.toList x) (htab : Tabs w) (hfe : fewB ls = false) :
    Calls Tryd.prog 6 #[.slice p n c, .int .u8 (at' : Nat), .agg D2] w fun e w' => e = .returned (.bool true) ∧ Up w w' := by
  have HT := Lib.hid htab
  have FA := Lib.hid fun W (hu : Up w W) => few_calls p n c ls W ha.len ha.wf (ha.links.up hu) ha.cap ha.max
  have hxp := hxw.prev
  have hxl := hxv.len hxp
  have hDs : D2.size = 35 := by simpa using hxl
  obtain ⟨px, cx, hcs, hx1, hx2, hx3⟩ := hxv
  have HCS := Lib.hid hcs
  have HDS := Lib.hid hDs
  have c34 := lk_c3 hxp hcs
  obtain ⟨xl, hxl2⟩ : ∃ k, k = x.data.length := ⟨_, rfl⟩
  rw [← hxl2] at c34
  have C34 := Lib.hid c34
  have HXL := Lib.hid hxl2
  rw [hfe] at FA
  clear ha hxw htab hxp hxl hDs hcs hx1 hx2 hx3 c34 hxl2 hfe
  go_enter Tryd.func6, Tryd.ntmps6
  go_wp2_with fail
  refine calls_nm ?_
  intro W1 hW1
  obtain ⟨bx, hbx⟩ : ∃ b, b = w.heap.size := ⟨_, rfl⟩
  rw [← hbx]
  have U1 : Hid (Up w W1) := by show Up w W1; rw [hW1]; exact (Up.refl w).alloc _
  have X1 : Hid (W1.heap[bx]? = some (.cells D2 37 (0, 0))) := by show _ = _; rw [hW1, heap_new hbx]
  clear hW1 hbx
  refine (sane08_calls _ (HT.out.up U1.out)).mono ?_
  rintro e w2 ⟨rfl, u2⟩
  have U2 : Hid (Up w w2) := Up.trans U1.out u2
  have X2 : Hid (w2.heap[bx]? = some (.cells D2 37 (0, 0))) := (u2.block bx (lt_of_block X1.out)).trans X1.out
  have k34 : w2.cell? ⟨bx, 34, none⟩ = some (.slice px xl cx) := by rw [cell_of_row w2 bx 34 _ _ _ X2.out]; exact C34.out
  clear u2
  go_wp2_with fail
  refine (FA.out w2 U2.out).mono ?_
  rintro e w3 ⟨rfl, rfl⟩
  go_wp2_with fail
  go_ret
  exact ⟨rfl, U2.out⟩

set_option maxHeartbeats 4000000 in
theorem changed_early (p : Option Addr) (n c at' : Nat) (D2 : Array Value) (ls : List Lk) (x : Lk) (w : World) (ha : In w p n c ls) (hxw : x.wf) (hxv : LkV w D2.toList x) (htab : Tabs w) (hfe : fewB ls = true) (hno : n = 0 ∨ 300 < x.data.length ∨ chk ls = 80) :
    Calls Tryd.prog 6 #[.slice p n c, .int .u8 (at' : Nat), .agg D2] w fun e w' => e = .returned (.bool true) ∧ Up w w' := by
  have HT := Lib.hid htab
  have FA := Lib.hid fun W (hu : Up w W) => few_calls p n c ls W ha.len ha.wf (ha.links.up hu) ha.cap ha.max
  have hxp := hxw.prev
  have hxl := hxv.len hxp
  have hDs : D2.size = 35 := by simpa using hxl
  obtain ⟨px, cx, hcs, hx1, hx2, hx3⟩ := hxv
  have HCS := Lib.hid hcs
  have HDS := Lib.hid hDs
  have c34 := lk_c3 hxp hcs
  obtain ⟨xl, hxl2⟩ : ∃ k, k = x.data.length := ⟨_, rfl⟩
  rw [← hxl2] at c34
  have C34 := Lib.hid c34
  have HXL := Lib.hid hxl2
  rw [hfe] at FA
  obtain ⟨hf, hf16⟩ := fewB_few ha.wf hfe
  have CK := Lib.hid fun W (hu : Up w W) => chCheck_calls p n c ls W ha.len hf (ha.links.up hu) (htab.up hu) ha.cap ha.max
  rcases Nat.eq_zero_or_pos n with hz | hpos
  · subst hz
    clear ha hxw htab hxp hxl hDs hcs hx1 hx2 hx3 c34 hxl2 hfe hno hf hf16
    go_enter Tryd.func6, Tryd.ntmps6
    go_wp2_with fail
    refine calls_nm ?_
    intro W1 hW1
    obtain ⟨bx, hbx⟩ : ∃ b, b = w.heap.size := ⟨_, rfl⟩
    rw [← hbx]
    have U1 : Hid (Up w W1) := by show Up w W1; rw [hW1]; exact (Up.refl w).alloc _
    have X1 : Hid (W1.heap[bx]? = some (.cells D2 37 (0, 0))) := by show _ = _; rw [hW1, heap_new hbx]
    clear hW1 hbx
    refine (sane08_calls _ (HT.out.up U1.out)).mono ?_
    rintro e w2 ⟨rfl, u2⟩
    have U2 : Hid (Up w w2) := Up.trans U1.out u2
    have X2 : Hid (w2.heap[bx]? = some (.cells D2 37 (0, 0))) := (u2.block bx (lt_of_block X1.out)).trans X1.out
    have k34 : w2.cell? ⟨bx, 34, none⟩ = some (.slice px xl cx) := by rw [cell_of_row w2 bx 34 _ _ _ X2.out]; exact C34.out
    clear u2
    go_wp2_with fail
    refine (FA.out w2 U2.out).mono ?_
    rintro e w3 ⟨rfl, rfl⟩
    go_wp2_with fail
    go_ret
    exact ⟨rfl, U2.out⟩
  have d1 : ((n : Int) == 0) = false := by simp; omega
  by_cases h3 : 300 < xl
  · have d2 : decide ((300 : Int) < (xl : Int)) = true := by simp; omega
    clear ha hxw htab hxp hxl hDs hcs hx1 hx2 hx3 c34 hxl2 hfe hno hf hf16 h3
    go_enter Tryd.func6, Tryd.ntmps6
    go_wp2_with fail
    refine calls_nm ?_
    intro W1 hW1
    obtain ⟨bx, hbx⟩ : ∃ b, b = w.heap.size := ⟨_, rfl⟩
    rw [← hbx]
    have U1 : Hid (Up w W1) := by show Up w W1; rw [hW1]; exact (Up.refl w).alloc _
    have X1 : Hid (W1.heap[bx]? = some (.cells D2 37 (0, 0))) := by show _ = _; rw [hW1, heap_new hbx]
    clear hW1 hbx
    refine (sane08_calls _ (HT.out.up U1.out)).mono ?_
    rintro e w2 ⟨rfl, u2⟩
    have U2 : Hid (Up w w2) := Up.trans U1.out u2
    have X2 : Hid (w2.heap[bx]? = some (.cells D2 37 (0, 0))) := (u2.block bx (lt_of_block X1.out)).trans X1.out
    have k34 : w2.cell? ⟨bx, 34, none⟩ = some (.slice px xl cx) := by rw [cell_of_row w2 bx 34 _ _ _ X2.out]; exact C34.out
    clear u2
    go_wp2_with fail
    refine (FA.out w2 U2.out).mono ?_
    rintro e w3 ⟨rfl, rfl⟩
    go_wp2_with fail
    go_ret
    exact ⟨rfl, U2.out⟩
  have d2 : decide ((300 : Int) < (xl : Int)) = false := by simp; omega
  have hk : chk ls = 80 := by
    rcases hno with h | h | h
    · omega
    · omega
    · exact h
  rw [hk] at CK
  clear ha hxw htab hxp hxl hDs hcs hx1 hx2 hx3 c34 hxl2 hfe hno hf hf16 h3 hk
  go_enter Tryd.func6, Tryd.ntmps6
  go_wp2_with fail
  refine calls_nm ?_
  intro W1 hW1
  obtain ⟨bx, hbx⟩ : ∃ b, b = w.heap.size := ⟨_, rfl⟩
  rw [← hbx]
  have U1 : Hid (Up w W1) := by show Up w W1; rw [hW1]; exact (Up.refl w).alloc _
  have X1 : Hid (W1.heap[bx]? = some (.cells D2 37 (0, 0))) := by show _ = _; rw [hW1, heap_new hbx]
  clear hW1 hbx
  refine (sane08_calls _ (HT.out.up U1.out)).mono ?_
  rintro e w2 ⟨rfl, u2⟩
  have U2 : Hid (Up w w2) := Up.trans U1.out u2
  have X2 : Hid (w2.heap[bx]? = some (.cells D2 37 (0, 0))) := (u2.block bx (lt_of_block X1.out)).trans X1.out
  have k34 : w2.cell? ⟨bx, 34, none⟩ = some (.slice px xl cx) := by rw [cell_of_row w2 bx 34 _ _ _ X2.out]; exact C34.out
  clear u2
  go_wp2_with fail
  refine (FA.out w2 U2.out).mono ?_
  rintro e w3 ⟨rfl, rfl⟩
  go_wp2_with fail
  refine (CK.out w2 U2.out).mono ?_
  rintro e w4 ⟨rfl, u4⟩
  have U4 : Hid (Up w w4) := Up.trans U2.out u4
  have X4 : Hid (w4.heap[bx]? = some (.cells D2 37 (0, 0))) := (u4.block bx (lt_of_block X2.out)).trans X2.out
  clear u4 k34
  go_wp2_with fail
  go_ret
  exact ⟨rfl, U4.out⟩

end Go.Proofs.YtpafambdccejnaaDoor
