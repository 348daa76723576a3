/- THE WALK OF sign.Verify. -/
import Derived.Test.YthjglkpkeffmpaaDoorSign2
namespace Go.Proofs.YthjglkpkeffmpaaDoor
open Go.RowKit
set_option linter.unusedVariables false

set_option maxRecDepth 100000 in
set_option maxHeartbeats 1000000 in
theorem verify_out (key E S : Int) (v : Value) (w : World) (h : E < 0 ∨ 1073741789 ≤ E ∨ S < 0 ∨ 1073741789 ≤ S) :
    Calls Tryd.prog 10 #[.int .i64 key, v, .agg #[.int .i64 E, .int .i64 S]] w fun e w' => e = .returned (.bool false) ∧ Up w w' := by
  have H := Lib.hid h
  clear h
  go_enter Tryd.func10, Tryd.ntmps10
  by_cases h1 : E < S
  · by_cases h2 : E < 0
    · go_wp2_with fail
      all_goals (go_ret; exact ⟨rfl, (Up.refl w).alloc _⟩)
    · have h2' : 0 ≤ E := by omega
      have h3 : 1073741789 ≤ S := by have := H.out; omega
      go_wp2_with fail
      all_goals (go_ret; exact ⟨rfl, (Up.refl w).alloc _⟩)
  · have h1' : S ≤ E := by omega
    by_cases h2 : S < 0
    · go_wp2_with fail
      all_goals (go_ret; exact ⟨rfl, (Up.refl w).alloc _⟩)
    · have h2' : 0 ≤ S := by omega
      have h3 : 1073741789 ≤ E := by have := H.out; omega
      go_wp2_with fail
      all_goals (go_ret; exact ⟨rfl, (Up.refl w).alloc _⟩)

set_option maxRecDepth 100000 in
set_option maxHeartbeats 1000000 in
theorem verify_key (key E S : Int) (v : Value) (w : World) (h1 : 0 ≤ E) (h2 : E < 1073741789) (h3 : 0 ≤ S) (h4 : S < 1073741789) (hk : elz key = false) :
    Calls Tryd.prog 10 #[.int .i64 key, v, .agg #[.int .i64 E, .int .i64 S]] w fun e w' => e = .returned (.bool false) ∧ Up w w' := by
  have V := Lib.hid fun w => valid_no w hk
  clear hk
  go_enter Tryd.func10, Tryd.ntmps10
  go_wp2_with fail
  all_goals
    refine (V.out _).mono ?_
    rintro e w2 ⟨rfl, hw⟩
    have U : Hid (Up w w2) := by show Up w w2; rw [← hw]; exact (Up.refl w).alloc _
    clear hw
    go_wp2_with fail
    go_ret
    exact ⟨rfl, U.out⟩

/-- the point of a signature -/
def sgR (key E S : Int) : Nat := Sq.pz 4 S * Sq.pz key.toNat (-E) % 2147483579
theorem sgR_lt (key E S : Int) : sgR key E S < 2147483579 := Nat.mod_lt _ (by omega)

set_option maxRecDepth 100000 in
set_option maxHeartbeats 1000000 in
theorem verify_val (key E S : Int) (s : ByteArray) (p : Option Addr) (c : Nat) (w : World) (h1 : 0 ≤ E) (h2 : E < 1073741789) (h3 : 0 ≤ S) (h4 : S < 1073741789) (hk : elz key = true) (hs : s.size ≤ 600) (hsb : SB w p s.data.toList) (htab : Tabs w) :
    Calls Tryd.prog 10 #[.int .i64 key, .slice p s.size c, .agg #[.int .i64 E, .int .i64 S]] w fun e w' => e = .returned (.bool (E == (hIts tSign [.inl (sgR key E S : Nat), .inl key, .inr s] : Nat))) ∧ Up w w' := by
  have V := Lib.hid fun w => valid_yes w hk
  have HSB := Lib.hid hsb
  have HT := Lib.hid htab
  have PS := Lib.hid fun w => spower_calls 4 S w elz4
  have PE := Lib.hid fun w => spower_calls key (-E) w hk
  obtain ⟨a, ha⟩ : ∃ a, a = Sq.pz (4 : Int).toNat S := ⟨_, rfl⟩
  obtain ⟨b, hb⟩ : ∃ b, b = Sq.pz key.toNat (-E) := ⟨_, rfl⟩
  have M := Lib.hid fun w => mul_yes w (elz_pz elz4 S) (elz_pz hk (-E))
  obtain ⟨r, hr⟩ : ∃ r, r = sgR key E S := ⟨_, rfl⟩
  have hrv : Hid ((a : Int) * b % 2147483579 = (r : Nat)) := by
    show _ = _
    have e : sgR key E S = a * b % 2147483579 := by rw [sgR, ha, hb]; rfl
    rw [hr, e]; simp
  have hrb : r < 2147483579 := by rw [hr]; exact sgR_lt _ _ _
  have hkr := elz_range hk
  rw [← ha] at PS M
  rw [← hb] at PE M
  rw [hrv.out] at M
  rw [← hr]
  clear hk hsb htab ha hb hr hrv
  go_enter Tryd.func10, Tryd.ntmps10
  go_wp2_with fail
  all_goals
    refine (V.out _).mono ?_
    rintro e w2 ⟨rfl, hw⟩
    obtain ⟨bt, hbt⟩ : ∃ bt, bt = w.heap.size := ⟨_, rfl⟩
    rw [← hbt]
    have U : Hid (Up w w2) := by show Up w w2; rw [← hw]; exact (Up.refl w).alloc _
    have T : Hid (w2.heap[bt]? = some (.cells #[.int .i64 E, .int .i64 S] 24 (0, 0))) := by show _ = _; rw [← hw, heap_new hbt]
    clear hw hbt
    go_wp2_with fail
    have hlb : bt < w2.drew.heap.size := lt_of_block (w := w2.drew) T.out
    have K0 : ∀ x : UpW w2.drew, x.w.cell? ⟨bt, 0, none⟩ = some (.int .i64 E) := fun x => by rw [cell_of_row x.w bt 0 _ _ _ ((x.block hlb).trans T.out)]; rfl
    have K1 : ∀ x : UpW w2.drew, x.w.cell? ⟨bt, 1, none⟩ = some (.int .i64 S) := fun x => by rw [cell_of_row x.w bt 1 _ _ _ ((x.block hlb).trans T.out)]; rfl
    haveI := UpW.some_ w2.drew
    have en : IntKind.i64.wrap (-E) = -E := IntWalk.i64_in _ (by omega)
    refine wp_region_up (by kernel_rfl) (by kernel_rfl) ?_
    repeat (first | quiet_step ((go_at_call 20; with_reducible (first | exact Calls.quiet_up (PS.out _) | exact Calls.quiet_up (PE.out _)))) | quiet_step ((go_at_call 31; with_reducible exact Calls.quiet_up_same (M.out _))))
    refine wpQuiet_nil ?_
    rintro w3 ⟨x, hx⟩
    have u3 : Up w2 w3 := by rw [hx]; exact ((Up.refl w2).drew).trans x.up
    have U3 : Hid (Up w w3) := Up.trans U.out u3
    have T3 : Hid (w3.heap[bt]? = some (.cells #[.int .i64 E, .int .i64 S] 24 (0, 0))) := (u3.block bt (lt_of_block T.out)).trans T.out
    clear hx u3 K0 K1
    go_wp2_with fail
    refine wp_region_mix_at [0, 1, 2, 3, 4, 5, 6, 7] [8, 9, 10, 11, 12] (by kernel_rfl) (by kernel_rfl) (fun _ _ d _ _ h => by cases d <;> exact h) ?_
    intro W4 u4 hW4
    refine ⟨fun W' => Up W4 W', Up.refl _, ?_⟩
    have hx4 : W4.heap[bt]? = some (.cells #[.int .i64 E, .int .i64 S] 24 (0, 0)) := by rw [hW4]; exact T3.out
    have K0 : ∀ x : InC (fun W' => Up W4 W'), x.w.cell? ⟨bt, 0, none⟩ = some (.int .i64 E) := fun x => by rw [cell_of_row x.w bt 0 _ _ _ ((x.h.block bt (lt_of_block hx4)).trans hx4)]; rfl
    have U4 : Hid (Up w W4) := Up.trans U3.out u4
    haveI : Nonempty (InC (fun W' => Up W4 W')) := ⟨⟨W4, Up.refl _⟩⟩
    clear u4 hW4 hx4
    simp only [pick, List.getElem?_cons_zero, List.getElem?_cons_succ]
    repeat (refine wpStillC_step (fun K hK => ?_); go_simp; refine hK _ ?_; clear hK K)
    refine wpStillC_nil ?_
    clear K0
    refine wpChain_step (fun K hK => ?_)
    go_simp
    refine hK _ _ (inC ((Up.refl W4).alloc _)) ?_
    clear hK K
    refine wpChain_step (fun K hK => ?_)
    go_simp
    refine calls_named0 ?_
    intro W5 hW5
    obtain ⟨ba, hba⟩ : ∃ ba, ba = W4.heap.size := ⟨_, rfl⟩
    rw [← hba]
    have u5 : Up W4 W5 := by rw [hW5]; exact (Up.refl W4).alloc _
    have l5 : W5.heap[ba]? = some (.cells #[.iface 3 (.int .i64 r), .iface 3 (.int .i64 key), .iface 22 (.slice p s.size c)] 20 (0, 0)) := by rw [hW5, heap_new hba]
    have U5 : Hid (Up w W5) := Up.trans U4.out u5
    obtain ⟨ee, hee, hc5⟩ := shash3 tSign (by decide) ba r key s p c W5 hs (by omega) (by omega) l5 (HSB.out.up U5.out) (HT.out.up U5.out)
    have HEE := Lib.hid hee
    have HU5 := Lib.hid u5
    clear hW5 l5 hee hba u5
    refine hc5.mono ?_
    rintro e w6 ⟨p6, m6, c6, rfl, u6, hc6⟩
    have HU6 : Hid (Up W4 w6) := Up.trans HU5.out u6
    refine hK _ _ (inC HU6.out) ?_
    clear hK K u6 hc5
    refine wpChain_step (fun K hK => ?_)
    go_simp
    refine hc6.mono ?_
    rintro e w7 ⟨rfl, u7⟩
    have HU7 : Hid (Up W4 w7) := Up.trans HU6.out u7
    refine hK _ _ (inC HU7.out) ?_
    clear hK K u7 hc6
    iterate 2
      refine wpChain_step (fun K hK => ?_)
      go_simp
      refine hK _ _ (inC HU7.out) ?_
      clear hK K
    refine wpChain_nil ?_
    go_wp2
    go_ret
    exact ⟨by rw [← HEE.out]; rfl, Up.trans U4.out HU7.out⟩

end Go.Proofs.YthjglkpkeffmpaaDoor
