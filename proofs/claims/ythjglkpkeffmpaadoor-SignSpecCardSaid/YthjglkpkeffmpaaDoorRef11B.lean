/- The walks of the reference acequiaref11: Point, Hash, Sign, Verify. -/
import Derived.Test.YthjglkpkeffmpaaDoorR10H
import Derived.Test.YthjglkpkeffmpaaDoorRefG
import Derived.Test.YthjglkpkeffmpaaDoorRC4
import Derived.Test.YthjglkpkeffmpaaDoorPoint
import Derived.Test.YthjglkpkeffmpaaDoorRef11
import Derived.Test.YthjglkpkeffmpaaDoorMix3
namespace Go.Proofs.YthjglkpkeffmpaaDoor
open Go.RowKit
set_option linter.unusedVariables false

theorem rc_Int (n : Int) (w : World) : Calls Tryd.prog 25 #[.int .i64 n] w fun e w' => e = .returned (.agg #[.int .i64 1, .int .i64 n, .string ⟨#[]⟩, .slice none 0 0]) ∧ Up w w' := by
  go_enter Tryd.func25, Tryd.ntmps25
  go_wp2
  refine bodyPost_nm ?_
  intro W hW
  have hx : W.heap[w.heap.size]? = some (.cells #[.int .i64 1, .int .i64 n, .string ⟨#[]⟩, .slice none 0 0] 41 (0, 0)) := by rw [hW, heap_new rfl]
  have U : Up w W := by rw [hW]; exact (Up.refl w).alloc _
  have q0 : W.cell? ⟨w.heap.size, 0, none⟩ = some (.int .i64 1) := by rw [cell_of_row W w.heap.size 0 _ _ _ hx]; rfl
  have q1 : W.cell? ⟨w.heap.size, 1, none⟩ = some (.int .i64 n) := by rw [cell_of_row W w.heap.size 1 _ _ _ hx]; rfl
  have q2 : W.cell? ⟨w.heap.size, 2, none⟩ = some (.string ⟨#[]⟩) := by rw [cell_of_row W w.heap.size 2 _ _ _ hx]; rfl
  have q3 : W.cell? ⟨w.heap.size, 3, none⟩ = some (.slice none 0 0) := by rw [cell_of_row W w.heap.size 3 _ _ _ hx]; rfl
  clear hW
  refine bodyPost_ret (v := .agg #[.int .i64 1, .int .i64 n, .string ⟨#[]⟩, .slice none 0 0]) (by simp [results, Tryd.results25, go_sem, q0, q1, q2, q3]) rfl ⟨rfl, U⟩
theorem rc_Text (s : ByteArray) (w : World) : Calls Tryd.prog 26 #[.string s] w fun e w' => e = .returned (.agg #[.int .i64 2, .int .i64 0, .string s, .slice none 0 0]) ∧ Up w w' := by
  go_enter Tryd.func26, Tryd.ntmps26
  go_wp2
  refine bodyPost_nm ?_
  intro W hW
  have hx : W.heap[w.heap.size]? = some (.cells #[.int .i64 2, .int .i64 0, .string s, .slice none 0 0] 41 (0, 0)) := by rw [hW, heap_new rfl]
  have U : Up w W := by rw [hW]; exact (Up.refl w).alloc _
  have q0 : W.cell? ⟨w.heap.size, 0, none⟩ = some (.int .i64 2) := by rw [cell_of_row W w.heap.size 0 _ _ _ hx]; rfl
  have q1 : W.cell? ⟨w.heap.size, 1, none⟩ = some (.int .i64 0) := by rw [cell_of_row W w.heap.size 1 _ _ _ hx]; rfl
  have q2 : W.cell? ⟨w.heap.size, 2, none⟩ = some (.string s) := by rw [cell_of_row W w.heap.size 2 _ _ _ hx]; rfl
  have q3 : W.cell? ⟨w.heap.size, 3, none⟩ = some (.slice none 0 0) := by rw [cell_of_row W w.heap.size 3 _ _ _ hx]; rfl
  clear hW
  refine bodyPost_ret (v := .agg #[.int .i64 2, .int .i64 0, .string s, .slice none 0 0]) (by simp [results, Tryd.results26, go_sem, q0, q1, q2, q3]) rfl ⟨rfl, U⟩
theorem rc_List (p : Option Addr) (n c : Nat) (w : World) : Calls Tryd.prog 24 #[.slice p n c] w fun e w' => e = .returned (.agg #[.int .i64 3, .int .i64 0, .string ⟨#[]⟩, .slice p n c]) ∧ Up w w' := by
  go_enter Tryd.func24, Tryd.ntmps24
  go_wp2
  refine bodyPost_nm ?_
  intro W hW
  have hx : W.heap[w.heap.size]? = some (.cells #[.int .i64 3, .int .i64 0, .string ⟨#[]⟩, .slice p n c] 41 (0, 0)) := by rw [hW, heap_new rfl]
  have U : Up w W := by rw [hW]; exact (Up.refl w).alloc _
  have q0 : W.cell? ⟨w.heap.size, 0, none⟩ = some (.int .i64 3) := by rw [cell_of_row W w.heap.size 0 _ _ _ hx]; rfl
  have q1 : W.cell? ⟨w.heap.size, 1, none⟩ = some (.int .i64 0) := by rw [cell_of_row W w.heap.size 1 _ _ _ hx]; rfl
  have q2 : W.cell? ⟨w.heap.size, 2, none⟩ = some (.string ⟨#[]⟩) := by rw [cell_of_row W w.heap.size 2 _ _ _ hx]; rfl
  have q3 : W.cell? ⟨w.heap.size, 3, none⟩ = some (.slice p n c) := by rw [cell_of_row W w.heap.size 3 _ _ _ hx]; rfl
  clear hW
  refine bodyPost_ret (v := .agg #[.int .i64 3, .int .i64 0, .string ⟨#[]⟩, .slice p n c]) (by simp [results, Tryd.results24, go_sem, q0, q1, q2, q3]) rfl ⟨rfl, U⟩

/-- the reference's Encode at a row of items, then its Hash -/
theorem rencHash (tag : ByteArray) (ht : tag.size ≤ 200) (b k : Nat) (xs : List Enc.It) (w : World) (hk : k = xs.length) (hk2 : k ≤ 1000) (hok : ∀ x ∈ xs, x.ok) (htot : (encIts xs).length ≤ 2000)
    (h : w.heap[b]? = some (.cells (rowV (xs.map elIt)).toArray 41 (0, 0))) :
    ∃ n, n = hIts tag xs ∧ Calls Tryd.prog 23 #[.agg #[.int .i64 3, .int .i64 0, .string ⟨#[]⟩, .slice (some ⟨b, 0, none⟩) k k]] w fun e w' => ∃ p m c, e = .returned (.tuple #[.slice p m c, .int .i64 0]) ∧ Up w w' ∧
      ∀ w2, Up w' w2 → Calls Tryd.prog 27 #[.string tag, .slice p m c] w2 fun e w3 => e = .returned (.int .i64 (n : Nat)) ∧ Up w2 w3 := by
  refine ⟨_, rfl, (rc_encodeIts b _ xs w (ownV_of_row (k := k) (by rw [List.length_map]; exact hk) (by omega) rfl h) hok (by omega) ?_).mono ?_⟩
  · have : (xs.map Enc.encIt).flatten.length ≤ (encIts xs).length := by simp [encIts, Enc.encL]; omega
    omega
  · rintro e w' ⟨v, rfl, ho, hu⟩
    obtain ⟨p, c, rfl, h1, h2, h3⟩ := ho.form
    exact ⟨p, _, c, rfl, hu, fun w2 h => rhash_calls tag p c _ w2 ht (by omega) h1 h2 (h3.up h)⟩

set_option maxRecDepth 100000 in
set_option maxHeartbeats 1000000 in
theorem rpoint_calls (key E S : Int) (w : World) (h1 : 0 ≤ E) (h2 : E < 1073741789) (h3 : 0 ≤ S) (h4 : S < 1073741789) (hk : elz key = true) :
    Calls Tryd.prog 33 #[.int .i64 key, .agg #[.int .i64 E, .int .i64 S]] w fun e w' => e = .returned (.int .i64 (sgR key E S : Nat)) ∧ Up w w' := by
  have PS := Lib.hid fun w => ref_pow_yes (n := S) w elz4
  have PE := Lib.hid fun w => ref_pow_yes (n := -E) w hk
  obtain ⟨a, ha⟩ : ∃ a, a = Sq.pz (4 : Int).toNat S := ⟨_, rfl⟩
  obtain ⟨b, hb⟩ : ∃ b, b = Sq.pz key.toNat (-E) := ⟨_, rfl⟩
  have M := Lib.hid fun w => ref_mul_yes w (elz_pz elz4 S) (elz_pz hk (-E))
  obtain ⟨r, hr⟩ : ∃ r, r = sgR key E S := ⟨_, rfl⟩
  have hrv : Hid ((a : Int) * b % 2147483579 = (r : Nat)) := by
    show _ = _
    have e : sgR key E S = a * b % 2147483579 := by rw [sgR, ha, hb]; rfl
    rw [hr, e]; simp
  rw [← ha] at PS M
  rw [← hb] at PE M
  rw [hrv.out] at M
  rw [← hr]
  clear hk ha hb hr hrv
  go_enter Tryd.func33, Tryd.ntmps33
  go_wp2_with fail
  refine calls_named0 ?_
  intro W1 hW1
  obtain ⟨bt, hbt⟩ : ∃ bt, bt = w.heap.size := ⟨_, rfl⟩
  rw [← hbt]
  have U1 : Hid (Up w W1) := by show Up w W1; rw [hW1]; exact (Up.refl w).alloc _
  have T1 : Hid (W1.heap[bt]? = some (.cells #[.int .i64 E, .int .i64 S] 24 (0, 0))) := by show _ = _; rw [hW1, heap_new hbt]
  clear hW1 hbt
  refine (PS.out _).mono ?_
  rintro e w2 ⟨rfl, rfl⟩
  have a0 : W1.cell? ⟨bt, 0, none⟩ = some (.int .i64 E) := by rw [cell_of_row W1 bt 0 _ _ _ T1.out]; rfl
  have en : IntKind.i64.wrap (-E) = -E := IntWalk.i64_in _ (by omega)
  have en2 : wrap64 (-E) = -E := wrap64_id (by omega) (by omega)
  go_wp2_with fail
  refine (PE.out _).mono ?_
  rintro e w4 ⟨rfl, rfl⟩
  go_wp2_with fail
  refine (M.out _).mono ?_
  rintro e w6 ⟨rfl, rfl⟩
  go_wp2_with fail
  go_ret
  exact ⟨rfl, U1.out⟩

set_option maxRecDepth 100000 in
set_option maxHeartbeats 1000000 in
theorem rhash11_calls (r key : Int) (s : ByteArray) (p : Option Addr) (c : Nat) (w : World) (hs : s.size ≤ 600) (hsb : SB w p s.data.toList) (ha : -9223372036854775808 ≤ r ∧ r ≤ 9223372036854775807) (hb' : -9223372036854775808 ≤ key ∧ key ≤ 9223372036854775807) :
    Calls Tryd.prog 29 #[.int .i64 r, .int .i64 key, .slice p s.size c] w fun e w' => e = .returned (.int .i64 (hIts tSign [.inl r, .inl key, .inr s] : Nat)) ∧ Up w w' := by
  have HS := Lib.hid hsb
  have I := Lib.hid rc_Int
  have TX := Lib.hid rc_Text
  have LI := Lib.hid rc_List
  clear hsb
  obtain ⟨n, hn⟩ : ∃ n, n = s.size := ⟨_, rfl⟩
  rw [← hn]
  obtain ⟨h0, hh0⟩ : ∃ h, h = hIts tSign [.inl r, .inl key, .inr s] := ⟨_, rfl⟩
  rw [← hh0]
  have HH0 := Lib.hid hh0
  have HN := Lib.hid hn
  clear hn hh0
  go_enter Tryd.func29, Tryd.ntmps29
  go_wp2_with fail
  refine wp_region_mixT_at [0, 2, 4, 5] [1, 3, 6, 7, 8, 9, 10] [11, 12, 13, 14] (by kernel_rfl) (by kernel_rfl) (fun _ _ d _ _ h => by cases d <;> exact h) ?_
  intro W U hW
  refine ⟨fun W' => Up W W', Up.refl _, ?_⟩
  have hcv : ∀ x : InC (fun W' => Up W W'), (convert 22 9 (.slice p n c)).run Tryd.prog x.w = .ok (.string s) x.w := fun x => by
    have := run_bytes_string x.w p c s (HS.out.up (Up.trans U x.h))
    rw [← HN.out] at this
    exact this
  haveI : Nonempty (InC (fun W' => Up W W')) := ⟨⟨W, Up.refl _⟩⟩
  have HU := Lib.hid U
  clear U hW
  simp only [pick, List.getElem?_cons_zero, List.getElem?_cons_succ]
  repeat (refine wpStillC_step (fun K hK => ?_); go_simp; refine hK _ ?_; clear hK K)
  refine wpStillC_nil ?_
  clear hcv
  refine wpChainT_step (fun K hK => ?_)
  go_simp
  refine (I.out _ _).mono ?_
  rintro e w1 ⟨rfl, u1⟩
  refine hK _ _ (inC u1) ?_
  clear hK K
  refine wpChainT_step (fun K hK => ?_)
  go_simp
  refine (I.out _ _).mono ?_
  rintro e w2 ⟨rfl, u2⟩
  have u2 : Up W w2 := Up.trans u1 u2
  refine hK _ _ (inC u2) ?_
  clear hK K u1
  refine wpChainT_step (fun K hK => ?_)
  go_simp
  refine (TX.out _ _).mono ?_
  rintro e w3 ⟨rfl, u3⟩
  have u3 : Up W w3 := Up.trans u2 u3
  refine hK _ _ (inC u3) ?_
  clear hK K u2
  refine wpChainT_step (fun K hK => ?_)
  go_simp
  refine hK _ _ (inC (u3.alloc _)) ?_
  clear hK K
  refine wpChainT_nm ?_
  intro W4 hW4
  obtain ⟨b, hb⟩ : ∃ b, b = w3.heap.size := ⟨_, rfl⟩
  rw [← hb]
  have u4 : Up W W4 := by rw [hW4]; exact u3.alloc _
  have X4 : Hid (W4.heap[b]? = some (.cells #[.int .i64 1, .int .i64 r, .string ⟨#[]⟩, .slice none 0 0, .int .i64 1, .int .i64 key, .string ⟨#[]⟩, .slice none 0 0, .int .i64 2, .int .i64 0, .string s, .slice none 0 0] 41 (0, 0))) := by show _ = _; rw [hW4, heap_new hb]
  clear hW4 hb u3
  refine wpChainT_step (fun K hK => ?_)
  go_simp
  refine (LI.out _ _ _ _).mono ?_
  rintro e w5 ⟨rfl, u5⟩
  obtain ⟨h, hh, hc5⟩ := rencHash tSign (by decide) b 3 [.inl r, .inl key, .inr s] w5 rfl (by omega) (by
      intro x hx
      simp only [List.mem_cons, List.not_mem_nil, or_false] at hx
      rcases hx with rfl | rfl | rfl
      · exact ha
      · exact hb'
      · show s.size ≤ 1048576; omega) (encIts3_len r key s hs) ((u5.block b (lt_of_block X4.out)).trans X4.out)
  obtain rfl : h = h0 := by rw [hh, HH0.out]
  have u5 : Up W w5 := Up.trans u4 u5
  refine hK _ _ (inC u5) ?_
  clear hK K hh u4 X4
  refine wpChainT_step (fun K hK => ?_)
  go_simp
  refine hc5.mono ?_
  rintro e w6 ⟨p6, m6, c6, rfl, u6, hc6⟩
  unfold tSign at hc6
  have HC6 := Lib.hid hc6
  have u6 : Up W w6 := Up.trans u5 u6
  have HU6 : Hid (Up w w6) := Up.trans HU.out u6
  refine hK _ _ (inC u6) ?_
  clear hK K hc5 hc6
  refine wpChainT_step (fun K hK => ?_)
  go_simp
  refine hK _ _ (inC u6) ?_
  clear hK K
  refine wpChainT_nil ⟨inC u6, ?_⟩
  repeat (refine wpStillC_step (fun K hK => ?_); go_simp; refine hK _ ?_; clear hK K)
  refine wpStillC_nil ?_
  clear u5 u6
  go_wp2_with fail
  refine (HC6.out _ (Up.refl w6)).mono ?_
  rintro e w7 ⟨rfl, u7⟩
  have HU7 : Hid (Up w w7) := Up.trans HU6.out u7
  clear u7
  go_wp2_with fail
  go_ret
  exact ⟨rfl, HU7.out⟩
end Go.Proofs.YthjglkpkeffmpaaDoor
