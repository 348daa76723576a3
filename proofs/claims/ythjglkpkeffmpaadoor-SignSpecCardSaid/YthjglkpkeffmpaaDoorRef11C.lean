/- The walks of the reference acequiaref11: Sign, Verify. -/
import Derived.Test.YthjglkpkeffmpaaDoorRef11B
namespace Go.Proofs.YthjglkpkeffmpaaDoor
open Go.RowKit
set_option linter.unusedVariables false

set_option maxRecDepth 100000 in
set_option maxHeartbeats 4000000 in
theorem rsign_no (x : Int) (v : Value) (w : World) (hx : x < 1 ∨ 1073741789 ≤ x) :
    Calls Tryd.prog 9 #[.int .i64 x, v] w fun e w' => e = .returned (.tuple #[.agg #[.int .i64 0, .int .i64 0], .int .i64 110]) ∧ Up w w' := by
  by_cases h : x < 1
  · go_enter Tryd.func9, Tryd.ntmps9
    go_wp2_with fail
    refine bodyPost_nm ?_
    intro W hW
    obtain ⟨bt, hbt⟩ : ∃ b, b = w.heap.size := ⟨_, rfl⟩
    rw [← hbt]
    have T : W.heap[bt]? = some (.cells #[.int .i64 0, .int .i64 0] 24 (0, 0)) := by rw [hW, heap_new hbt]
    have U : Up w W := by rw [hW]; exact (Up.refl w).alloc _
    have a0 : W.cell? ⟨bt, 0, none⟩ = some (.int .i64 0) := by rw [cell_of_row W bt 0 _ _ _ T]; rfl
    have a1 : W.cell? ⟨bt, 1, none⟩ = some (.int .i64 0) := by rw [cell_of_row W bt 1 _ _ _ T]; rfl
    clear hW hbt
    refine bodyPost_ret (v := .tuple #[.agg #[.int .i64 0, .int .i64 0], .int .i64 110]) (by simp [results, Tryd.results9, go_sem, a0, a1]) rfl ⟨rfl, U⟩
  · have h2 : 1073741789 ≤ x := by omega
    go_enter Tryd.func9, Tryd.ntmps9
    go_wp2_with fail
    refine bodyPost_nm ?_
    intro W hW
    obtain ⟨bt, hbt⟩ : ∃ b, b = w.heap.size := ⟨_, rfl⟩
    rw [← hbt]
    have T : W.heap[bt]? = some (.cells #[.int .i64 0, .int .i64 0] 24 (0, 0)) := by rw [hW, heap_new hbt]
    have U : Up w W := by rw [hW]; exact (Up.refl w).alloc _
    have a0 : W.cell? ⟨bt, 0, none⟩ = some (.int .i64 0) := by rw [cell_of_row W bt 0 _ _ _ T]; rfl
    have a1 : W.cell? ⟨bt, 1, none⟩ = some (.int .i64 0) := by rw [cell_of_row W bt 1 _ _ _ T]; rfl
    clear hW hbt
    refine bodyPost_ret (v := .tuple #[.agg #[.int .i64 0, .int .i64 0], .int .i64 110]) (by simp [results, Tryd.results9, go_sem, a0, a1]) rfl ⟨rfl, U⟩

set_option maxRecDepth 100000 in
set_option maxHeartbeats 4000000 in
theorem rsign_yes (x : Nat) (s : ByteArray) (p : Option Addr) (c : Nat) (w : World) (h1 : 1 ≤ x) (h2 : x < 1073741789) (hs : s.size ≤ 600) (hsb : SB w p s.data.toList) :
    Calls Tryd.prog 9 #[.int .i64 x, .slice p s.size c] w fun e w' => e = .returned (.tuple #[.agg #[.int .i64 (sgE x s : Nat), .int .i64 (sgS x s : Nat)], .int .i64 0]) ∧ Up w w' := by
  have HS := Lib.hid hsb
  have I := Lib.hid rc_Int
  have TX := Lib.hid rc_Text
  have LI := Lib.hid rc_List
  clear hsb
  have PX := Lib.hid fun w => ref_pow_yes (n := (x : Int)) w elz4
  have PK := Lib.hid fun w => ref_pow_yes (n := (sgK x s : Int)) w elz4
  rw [show ((4 : Int).toNat) = 4 from rfl] at PX PK
  have RH := Lib.hid fun w (a : SB w p s.data.toList) => rhash11_calls (Sq.pz 4 (sgK x s) : Nat) (Sq.pz 4 x : Nat) s p c w hs a (by have := Sq.pz_lt 4 (sgK x s : Int); omega) (by have := Sq.pz_lt 4 (x : Int); omega)
  have TM := Lib.hid fun w => times11_calls (sgE x s : Nat) x w
  have hE := sgE_lt x s
  obtain ⟨t, ht⟩ : ∃ t : Int, t = (sgE x s : Int) % 1073741789 * ((x : Int) % 1073741789) % 1073741789 := ⟨_, rfl⟩
  have ht0 : 0 ≤ t ∧ t < 1073741789 := by omega
  have hSv : ((sgS x s : Nat) : Int) = ((sgK x s : Int) + t) % 1073741789 := by
    have hx : ((sgE x s * x : Nat) : Int) = (sgE x s : Int) * x := Int.natCast_mul _ _
    have e : t = (sgE x s : Int) * x % 1073741789 := by
      rw [ht, Int.emod_eq_of_lt (by omega) (show (sgE x s : Int) < 1073741789 by omega), Int.emod_eq_of_lt (by omega) (show (x : Int) < 1073741789 by omega)]
    rw [e, ← hx, sgS]
    generalize sgE x s * x = y
    omega
  rw [← ht] at TM
  have hK : sgK x s = max (hIts tNonce [.inl x, .inr s]) 1 := rfl
  have hkl := hIts_lt tNonce [.inl x, .inr s]
  have hEd : sgE x s = hIts tSign [.inl (Sq.pz 4 (sgK x s) : Nat), .inl (Sq.pz 4 x : Nat), .inr s] := rfl
  rw [← hEd] at RH
  rw [hSv]
  obtain ⟨k0, hk0⟩ : ∃ k, k = hIts tNonce [.inl x, .inr s] := ⟨_, rfl⟩
  rw [← hk0] at hK hkl
  obtain ⟨k, hkk⟩ : ∃ k : Int, k = (sgK x s : Int) := ⟨_, rfl⟩
  have hk1 : k = if k0 = 0 then 1 else k0 := by rw [hkk, hK]; split <;> omega
  rw [← hkk] at PK RH
  obtain ⟨r1, hr1⟩ : ∃ r, r = Sq.pz 4 k := ⟨_, rfl⟩
  obtain ⟨r2, hr2⟩ : ∃ r, r = Sq.pz 4 (x : Int) := ⟨_, rfl⟩
  obtain ⟨ee, hee⟩ : ∃ ee : Int, ee = (sgE x s : Int) := ⟨_, rfl⟩
  have hee0 : 0 ≤ ee ∧ ee < 1073741789 := by omega
  rw [← hr1] at PK RH
  rw [← hr2] at PX RH
  rw [← hee] at RH TM
  rw [← hkk, ← hee]
  have hk2 : 0 ≤ k ∧ k < 1073741789 := by rw [hk1]; split <;> omega
  obtain ⟨z, hzz⟩ : ∃ z, z = (k + t) % 1073741789 := ⟨_, rfl⟩
  have HW : Hid (wrap64 (k + t) = k + t ∧ IntKind.i64.wrap (k + t) = k + t ∧ (k + t).tmod 1073741789 = z) := ⟨wrap64_id (by omega) (by omega), IntWalk.i64_in _ (by omega), by rw [hzz]; exact tmod_pos (by omega)⟩
  rw [← hzz]
  clear hzz
  have HK0 := Lib.hid hk0
  have HK1 := Lib.hid hk1
  obtain ⟨n, hn⟩ : ∃ n, n = s.size := ⟨_, rfl⟩
  rw [← hn] at RH
  rw [← hn]
  have HN := Lib.hid hn
  clear hSv hEd hK hkk hr1 hr2 hee ht hk0 hk1 hn hE
  go_enter Tryd.func9, Tryd.ntmps9
  go_wp2_with fail
  refine wp_region_mixT_at [0, 2, 3] [1, 4, 5, 6, 7, 8] [9, 10, 11, 12] (by kernel_rfl) (by kernel_rfl) (fun _ _ d _ _ h => by cases d <;> exact h) ?_
  intro W U hW
  obtain ⟨bt, hbt⟩ : ∃ b, b = w.heap.size := ⟨_, rfl⟩
  rw [← hbt]
  have T : Hid (W.heap[bt]? = some (.cells #[.int .i64 0, .int .i64 0] 24 (0, 0))) := by show _ = _; rw [hW, heap_new hbt]
  have U : Up w W := Up.trans ((Up.refl w).alloc _) U
  have HBT : Hid (w.heap.size ≤ bt) := by show _ ≤ bt; omega
  clear hbt
  refine ⟨fun W' => Up W W', Up.refl _, ?_⟩
  have hcv : ∀ x : InC (fun W' => Up W W'), (convert 22 9 (.slice p n c)).run Tryd.prog x.w = .ok (.string s) x.w := fun x => by
    have := run_bytes_string x.w p c s (HS.out.up (Up.trans U x.h))
    rw [← HN.out] at this
    exact this
  haveI : Nonempty (InC (fun W' => Up W W')) := ⟨⟨W, Up.refl _⟩⟩
  have HU := Lib.hid U
  clear U hW
  simp only [pick, List.getElem?_cons_zero, List.getElem?_cons_succ]
  repeat (refine wpStillC_step (fun K hK => ?_); go_simp; refine hK _ ?_; clear hK K)
  refine wpStillC_nil ?_
  clear hcv
  refine wpChainT_step (fun K hK => ?_)
  go_simp
  refine (I.out _ _).mono ?_
  rintro e w1 ⟨rfl, u1⟩
  refine hK _ _ (inC u1) ?_
  clear hK K
  refine wpChainT_step (fun K hK => ?_)
  go_simp
  refine (TX.out _ _).mono ?_
  rintro e w3 ⟨rfl, u3⟩
  have u3 : Up W w3 := Up.trans u1 u3
  refine hK _ _ (inC u3) ?_
  clear hK K u1
  refine wpChainT_step (fun K hK => ?_)
  go_simp
  refine hK _ _ (inC (u3.alloc _)) ?_
  clear hK K
  refine wpChainT_nm ?_
  intro W4 hW4
  obtain ⟨b, hb⟩ : ∃ b, b = w3.heap.size := ⟨_, rfl⟩
  rw [← hb]
  have u4 : Up W W4 := by rw [hW4]; exact u3.alloc _
  have X4 : Hid (W4.heap[b]? = some (.cells #[.int .i64 1, .int .i64 x, .string ⟨#[]⟩, .slice none 0 0, .int .i64 2, .int .i64 0, .string s, .slice none 0 0] 41 (0, 0))) := by show _ = _; rw [hW4, heap_new hb]
  clear hW4 hb u3
  refine wpChainT_step (fun K hK => ?_)
  go_simp
  refine (LI.out _ _ _ _).mono ?_
  rintro e w5 ⟨rfl, u5⟩
  obtain ⟨h, hh, hc5⟩ := rencHash tNonce (by decide) b 2 [.inl x, .inr s] w5 rfl (by omega) (by
      intro y hy
      simp only [List.mem_cons, List.not_mem_nil, or_false] at hy
      rcases hy with rfl | rfl
      · show -9223372036854775808 ≤ (x : Int) ∧ (x : Int) ≤ 9223372036854775807; omega
      · show s.size ≤ 1048576; omega) (encIts2_len x s hs) ((u5.block b (lt_of_block X4.out)).trans X4.out)
  obtain rfl : h = k0 := by rw [hh, HK0.out]
  have u5 : Up W w5 := Up.trans u4 u5
  refine hK _ _ (inC u5) ?_
  clear hK K hh u4 X4
  refine wpChainT_step (fun K hK => ?_)
  go_simp
  refine hc5.mono ?_
  rintro e w6 ⟨p6, m6, c6, rfl, u6, hc6⟩
  unfold tNonce at hc6
  have HC6 := Lib.hid hc6
  have u6 : Up W w6 := Up.trans u5 u6
  have HU6 : Hid (Up w w6) := Up.trans HU.out u6
  refine hK _ _ (inC u6) ?_
  clear hK K hc5 hc6
  refine wpChainT_step (fun K hK => ?_)
  go_simp
  refine hK _ _ (inC u6) ?_
  clear hK K
  refine wpChainT_nil ⟨inC u6, ?_⟩
  repeat (refine wpStillC_step (fun K hK => ?_); go_simp; refine hK _ ?_; clear hK K)
  refine wpStillC_nil ?_
  have T6 : Hid (w6.heap[bt]? = some (.cells #[.int .i64 0, .int .i64 0] 24 (0, 0))) := (u6.block bt (lt_of_block T.out)).trans T.out
  clear u5 u6 T
  go_wp2_with fail
  refine (HC6.out _ (Up.refl w6)).mono ?_
  rintro e w7 ⟨rfl, u7⟩
  have HU7 : Hid (Up w w7) := Up.trans HU6.out u7
  have T7 : Hid (w7.heap[bt]? = some (.cells #[.int .i64 0, .int .i64 0] 24 (0, 0))) := (u7.block bt (lt_of_block T6.out)).trans T6.out
  clear u7 HC6 T6
  by_cases hz : h = 0
  · subst hz
    have hk : k = 1 := by have := HK1.out; simpa using this
    subst hk
    clear HK1
    go_wp2_with fail
    refine (PX.out _).mono ?_
    rintro e w8 ⟨rfl, rfl⟩
    go_wp2_with fail
    refine (PK.out _).mono ?_
    rintro e w8 ⟨rfl, rfl⟩
    go_wp2_with fail
    refine (RH.out _ (HS.out.up HU7.out)).mono ?_
    rintro e w8 ⟨rfl, u8⟩
    have HU8 : Hid (Up w w8) := Up.trans HU7.out u8
    have T8 : Hid (w8.heap[bt]? = some (.cells #[.int .i64 0, .int .i64 0] 24 (0, 0))) := (u8.block bt (lt_of_block T7.out)).trans T7.out
    clear u8
    obtain ⟨m1, m2, m3⟩ := HW.out
    have c80 : w8.cell? ⟨bt, 0, none⟩ = some (.int .i64 0) := by rw [cell_of_row w8 bt 0 _ _ _ T8.out]; rfl
    have c81 : w8.cell? ⟨bt, 1, none⟩ = some (.int .i64 0) := by rw [cell_of_row w8 bt 1 _ _ _ T8.out]; rfl
    have f80 : w8.frozen? ⟨bt, 0, none⟩ = false := free_row T8.out 0
    have f81 : w8.frozen? ⟨bt, 1, none⟩ = false := free_row T8.out 1
    go_wp2_with fail
    refine (TM.out _).mono ?_
    rintro e w9 ⟨rfl, rfl⟩
    go_wp2_with fail
    refine bodyPost_nm ?_
    intro W9 hW9
    have h9 : W9.heap[bt]? = some (.cells #[.int .i64 ee, .int .i64 z] 24 (0, 0)) := by
      have a1 := heap_setCell_same w8 bt 0 _ _ (.int .i64 ee) T8.out
      have a2 := heap_setCell_same _ bt 1 _ _ (.int .i64 z) a1
      have a3 := heap_setCell_same _ bt 0 _ _ (.int .i64 ee) a2
      have a4 := heap_setCell_same _ bt 1 _ _ (.int .i64 z) a3
      rw [hW9]
      first | exact a4 | exact a2
    have k0' : W9.cell? ⟨bt, 0, none⟩ = some (.int .i64 ee) := by rw [cell_of_row W9 bt 0 _ _ _ h9]; rfl
    have k1' : W9.cell? ⟨bt, 1, none⟩ = some (.int .i64 z) := by rw [cell_of_row W9 bt 1 _ _ _ h9]; rfl
    have u9 : Up w W9 := by
      rw [hW9]
      first | exact (((HU8.out.below.setCell HBT.out _).setCell HBT.out _).setCell HBT.out _).setCell HBT.out _ | exact (HU8.out.below.setCell HBT.out _).setCell HBT.out _
    clear hW9 h9 c80 c81 f80 f81
    refine bodyPost_ret (v := .tuple #[.agg #[.int .i64 ee, .int .i64 z], .int .i64 0]) (by simp [results, Tryd.results9, go_sem, k0', k1']) rfl ⟨rfl, u9⟩
  · have hz' : ((h : Int) == 0) = false := by rw [beq_eq_false_iff_ne]; omega
    have hk : k = (h : Int) := by have := HK1.out; rw [if_neg hz] at this; exact this
    subst hk
    clear HK1
    go_wp2_with fail
    refine (PX.out _).mono ?_
    rintro e w8 ⟨rfl, rfl⟩
    go_wp2_with fail
    refine (PK.out _).mono ?_
    rintro e w8 ⟨rfl, rfl⟩
    go_wp2_with fail
    refine (RH.out _ (HS.out.up HU7.out)).mono ?_
    rintro e w8 ⟨rfl, u8⟩
    have HU8 : Hid (Up w w8) := Up.trans HU7.out u8
    have T8 : Hid (w8.heap[bt]? = some (.cells #[.int .i64 0, .int .i64 0] 24 (0, 0))) := (u8.block bt (lt_of_block T7.out)).trans T7.out
    clear u8
    obtain ⟨m1, m2, m3⟩ := HW.out
    have c80 : w8.cell? ⟨bt, 0, none⟩ = some (.int .i64 0) := by rw [cell_of_row w8 bt 0 _ _ _ T8.out]; rfl
    have c81 : w8.cell? ⟨bt, 1, none⟩ = some (.int .i64 0) := by rw [cell_of_row w8 bt 1 _ _ _ T8.out]; rfl
    have f80 : w8.frozen? ⟨bt, 0, none⟩ = false := free_row T8.out 0
    have f81 : w8.frozen? ⟨bt, 1, none⟩ = false := free_row T8.out 1
    go_wp2_with fail
    refine (TM.out _).mono ?_
    rintro e w9 ⟨rfl, rfl⟩
    go_wp2_with fail
    refine bodyPost_nm ?_
    intro W9 hW9
    have h9 : W9.heap[bt]? = some (.cells #[.int .i64 ee, .int .i64 z] 24 (0, 0)) := by
      have a1 := heap_setCell_same w8 bt 0 _ _ (.int .i64 ee) T8.out
      have a2 := heap_setCell_same _ bt 1 _ _ (.int .i64 z) a1
      have a3 := heap_setCell_same _ bt 0 _ _ (.int .i64 ee) a2
      have a4 := heap_setCell_same _ bt 1 _ _ (.int .i64 z) a3
      rw [hW9]
      first | exact a4 | exact a2
    have k0' : W9.cell? ⟨bt, 0, none⟩ = some (.int .i64 ee) := by rw [cell_of_row W9 bt 0 _ _ _ h9]; rfl
    have k1' : W9.cell? ⟨bt, 1, none⟩ = some (.int .i64 z) := by rw [cell_of_row W9 bt 1 _ _ _ h9]; rfl
    have u9 : Up w W9 := by
      rw [hW9]
      first | exact (((HU8.out.below.setCell HBT.out _).setCell HBT.out _).setCell HBT.out _).setCell HBT.out _ | exact (HU8.out.below.setCell HBT.out _).setCell HBT.out _
    clear hW9 h9 c80 c81 f80 f81
    refine bodyPost_ret (v := .tuple #[.agg #[.int .i64 ee, .int .i64 z], .int .i64 0]) (by simp [results, Tryd.results9, go_sem, k0', k1']) rfl ⟨rfl, u9⟩

end Go.Proofs.YthjglkpkeffmpaaDoor
