/- the reference acequiaref57: LeafText, NodeText. Printed by tools/genreftext.py. THE EXAMPLES OF sane, plain (chapter 57). few; sane (chapter 57). -/
import Derived.Test.YtobcfhninchnkaaDoorPfE
namespace Go.Proofs.YtobcfhninchnkaaDoor
open Go Go.RowKit
set_option linter.unusedVariables false
set_option maxRecDepth 100000

theorem rc_Int (n : Int) (w : World) : Calls Tryd.prog 50 #[.int .i64 n] w fun e w' => e = .returned (.agg #[.int .i64 1, .int .i64 n, .string ⟨#[]⟩, .slice none 0 0]) ∧ Up w w' := by
  go_enter Tryd.func50, Tryd.ntmps50
  go_wp2
  refine bodyPost_nm ?_
  intro W hW
  have hx : W.heap[w.heap.size]? = some (.cells #[.int .i64 1, .int .i64 n, .string ⟨#[]⟩, .slice none 0 0] 85 (0, 0)) := by rw [hW, heap_new rfl]
  have U : Up w W := by rw [hW]; exact (Up.refl w).alloc _
  have q0 : W.cell? ⟨w.heap.size, 0, none⟩ = some (.int .i64 1) := by rw [cell_of_row W w.heap.size 0 _ _ _ hx]; rfl
  have q1 : W.cell? ⟨w.heap.size, 1, none⟩ = some (.int .i64 n) := by rw [cell_of_row W w.heap.size 1 _ _ _ hx]; rfl
  have q2 : W.cell? ⟨w.heap.size, 2, none⟩ = some (.string ⟨#[]⟩) := by rw [cell_of_row W w.heap.size 2 _ _ _ hx]; rfl
  have q3 : W.cell? ⟨w.heap.size, 3, none⟩ = some (.slice none 0 0) := by rw [cell_of_row W w.heap.size 3 _ _ _ hx]; rfl
  clear hW
  refine bodyPost_ret (v := .agg #[.int .i64 1, .int .i64 n, .string ⟨#[]⟩, .slice none 0 0]) (by simp [results, Tryd.results50, go_sem, q0, q1, q2, q3]) rfl ⟨rfl, U⟩
theorem rc_Text (s : ByteArray) (w : World) : Calls Tryd.prog 49 #[.string s] w fun e w' => e = .returned (.agg #[.int .i64 2, .int .i64 0, .string s, .slice none 0 0]) ∧ Up w w' := by
  go_enter Tryd.func49, Tryd.ntmps49
  go_wp2
  refine bodyPost_nm ?_
  intro W hW
  have hx : W.heap[w.heap.size]? = some (.cells #[.int .i64 2, .int .i64 0, .string s, .slice none 0 0] 85 (0, 0)) := by rw [hW, heap_new rfl]
  have U : Up w W := by rw [hW]; exact (Up.refl w).alloc _
  have q0 : W.cell? ⟨w.heap.size, 0, none⟩ = some (.int .i64 2) := by rw [cell_of_row W w.heap.size 0 _ _ _ hx]; rfl
  have q1 : W.cell? ⟨w.heap.size, 1, none⟩ = some (.int .i64 0) := by rw [cell_of_row W w.heap.size 1 _ _ _ hx]; rfl
  have q2 : W.cell? ⟨w.heap.size, 2, none⟩ = some (.string s) := by rw [cell_of_row W w.heap.size 2 _ _ _ hx]; rfl
  have q3 : W.cell? ⟨w.heap.size, 3, none⟩ = some (.slice none 0 0) := by rw [cell_of_row W w.heap.size 3 _ _ _ hx]; rfl
  clear hW
  refine bodyPost_ret (v := .agg #[.int .i64 2, .int .i64 0, .string s, .slice none 0 0]) (by simp [results, Tryd.results49, go_sem, q0, q1, q2, q3]) rfl ⟨rfl, U⟩
theorem rc_List (p : Option Addr) (n c : Nat) (w : World) : Calls Tryd.prog 48 #[.slice p n c] w fun e w' => e = .returned (.agg #[.int .i64 3, .int .i64 0, .string ⟨#[]⟩, .slice p n c]) ∧ Up w w' := by
  go_enter Tryd.func48, Tryd.ntmps48
  go_wp2
  refine bodyPost_nm ?_
  intro W hW
  have hx : W.heap[w.heap.size]? = some (.cells #[.int .i64 3, .int .i64 0, .string ⟨#[]⟩, .slice p n c] 85 (0, 0)) := by rw [hW, heap_new rfl]
  have U : Up w W := by rw [hW]; exact (Up.refl w).alloc _
  have q0 : W.cell? ⟨w.heap.size, 0, none⟩ = some (.int .i64 3) := by rw [cell_of_row W w.heap.size 0 _ _ _ hx]; rfl
  have q1 : W.cell? ⟨w.heap.size, 1, none⟩ = some (.int .i64 0) := by rw [cell_of_row W w.heap.size 1 _ _ _ hx]; rfl
  have q2 : W.cell? ⟨w.heap.size, 2, none⟩ = some (.string ⟨#[]⟩) := by rw [cell_of_row W w.heap.size 2 _ _ _ hx]; rfl
  have q3 : W.cell? ⟨w.heap.size, 3, none⟩ = some (.slice p n c) := by rw [cell_of_row W w.heap.size 3 _ _ _ hx]; rfl
  clear hW
  refine bodyPost_ret (v := .agg #[.int .i64 3, .int .i64 0, .string ⟨#[]⟩, .slice p n c]) (by simp [results, Tryd.results48, go_sem, q0, q1, q2, q3]) rfl ⟨rfl, U⟩


theorem rencode_its (xs : List Enc.It) (k b : Nat) (D : Array Value) (w : World) (hk : k = xs.length) (hk2 : k ≤ 100) (hok : ∀ x ∈ xs, x.ok) (htot : (encIts xs).length ≤ 2000) (hD : D = (rowV (xs.map elIt)).toArray) (h : w.heap[b]? = some (.cells D 85 (0, 0))) :
    Calls Tryd.prog 47 #[.agg #[.int .i64 3, .int .i64 0, .string ⟨#[]⟩, .slice (some ⟨b, 0, none⟩) k k]] w fun e w' => ∃ p c, e = .returned (.tuple #[.slice p (encIts xs).length c, .int .i64 0]) ∧ Up w w' ∧ (encIts xs).length ≤ c ∧ c ≤ maxLen ∧ SB w' p (encIts xs) ∧ Own w' w.heap.size (.slice p (encIts xs).length c) (encIts xs) := by
  subst hD
  refine (rc_encodeIts b _ xs w (ownV_of_row (k := k) (by rw [List.length_map]; exact hk) (by omega) rfl h) hok (by omega) (by have := tot_of htot; omega)).mono ?_
  rintro e w' ⟨v', rfl, ho, hu⟩
  obtain ⟨p, c, rfl, h1, h2, h3⟩ := ho.form
  exact ⟨p, c, rfl, hu, h1, h2, h3, ho⟩

set_option maxHeartbeats 2000000 in
theorem rleafText_callsO (x : Sh) (hx : x.wf) (w : World) : Calls Tryd.prog 23 #[.agg (shCells x)] w (RetO w (leafT x)) := by
  have HX := Lib.hid hx
  have NU := Lib.hid rc_Int
  have NT := Lib.hid rc_Text
  have NL := Lib.hid rc_List
  clear hx
  unfold shCells
  go_enter Tryd.func23, Tryd.ntmps23
  go_wp2_with fail
  refine wp_named ?_
  intro W0 hW0
  obtain ⟨bx, hbx⟩ : ∃ b, b = w.heap.size := ⟨_, rfl⟩
  have x1 : W0.heap[bx]? = some (.cells #[.int .i64 x.farm, .int .i64 x.litres, .int .i64 x.price, .int .i64 x.cut, .int .i64 x.salt] 38 (0, 0)) := by rw [hW0, hbx]; exact heap_new rfl
  have u0 : Up w W0 := by rw [hW0]; exact (Up.refl w).alloc _
  have X1 := Lib.hid x1
  have U0 := Lib.hid u0
  rw [← hbx]
  clear hW0 hbx x1 u0
  refine wp_region_mixT_at [1, 2, 4, 5, 7, 8, 10, 11, 13, 14] [0, 3, 6, 9, 12, 15, 16, 17, 18, 19] [20, 21, 22, 23] (by kernel_rfl) (by kernel_rfl) (fun _ _ d _ _ h => by cases d <;> exact h) ?_
  intro W U hW
  refine ⟨fun W' => Up W W', Up.refl _, ?_⟩
  have XW : Hid (W.heap[bx]? = some (.cells #[.int .i64 x.farm, .int .i64 x.litres, .int .i64 x.price, .int .i64 x.cut, .int .i64 x.salt] 38 (0, 0))) := by show _ = _; rw [hW]; exact X1.out
  have UW : Hid (Up w W) := Up.trans U0.out U
  haveI : Nonempty (InC (fun W' => Up W W')) := ⟨⟨W, Up.refl _⟩⟩
  have hX : ∀ y : InC (fun W' => Up W W'), y.w.heap[bx]? = some (.cells #[.int .i64 x.farm, .int .i64 x.litres, .int .i64 x.price, .int .i64 x.cut, .int .i64 x.salt] 38 (0, 0)) := fun y => (y.h.block bx (lt_of_block XW.out)).trans XW.out
  have k0 : ∀ y : InC (fun W' => Up W W'), y.w.cell? ⟨bx, 0, none⟩ = some (.int .i64 x.farm) := fun y => cell_of_row y.w bx 0 _ _ _ (hX y)
  have k1 : ∀ y : InC (fun W' => Up W W'), y.w.cell? ⟨bx, 1, none⟩ = some (.int .i64 x.litres) := fun y => cell_of_row y.w bx 1 _ _ _ (hX y)
  have k2 : ∀ y : InC (fun W' => Up W W'), y.w.cell? ⟨bx, 2, none⟩ = some (.int .i64 x.price) := fun y => cell_of_row y.w bx 2 _ _ _ (hX y)
  have k3 : ∀ y : InC (fun W' => Up W W'), y.w.cell? ⟨bx, 3, none⟩ = some (.int .i64 x.cut) := fun y => cell_of_row y.w bx 3 _ _ _ (hX y)
  have k4 : ∀ y : InC (fun W' => Up W W'), y.w.cell? ⟨bx, 4, none⟩ = some (.int .i64 x.salt) := fun y => cell_of_row y.w bx 4 _ _ _ (hX y)
  clear U hW hX
  simp only [pick, List.getElem?_cons_zero, List.getElem?_cons_succ]
  repeat (refine wpStillC_step (fun K hK => ?_); go_simp; refine hK _ ?_; clear hK K)
  refine wpStillC_nil ?_
  clear k0 k1 k2 k3 k4
  refine wpChainT_step (fun K hK => ?_)
  go_simp
  refine (NT.out _ _).mono ?_
  rintro e v0 ⟨rfl, u⟩
  have u0 : Up W v0 := Up.trans (Up.refl W) u
  refine hK _ _ (inC u0) ?_
  clear hK K u
  refine wpChainT_step (fun K hK => ?_)
  go_simp
  refine (NU.out _ _).mono ?_
  rintro e v1 ⟨rfl, u⟩
  have u1 : Up W v1 := Up.trans u0 u
  refine hK _ _ (inC u1) ?_
  clear hK K u u0
  refine wpChainT_step (fun K hK => ?_)
  go_simp
  refine (NU.out _ _).mono ?_
  rintro e v2 ⟨rfl, u⟩
  have u2 : Up W v2 := Up.trans u1 u
  refine hK _ _ (inC u2) ?_
  clear hK K u u1
  refine wpChainT_step (fun K hK => ?_)
  go_simp
  refine (NU.out _ _).mono ?_
  rintro e v3 ⟨rfl, u⟩
  have u3 : Up W v3 := Up.trans u2 u
  refine hK _ _ (inC u3) ?_
  clear hK K u u2
  refine wpChainT_step (fun K hK => ?_)
  go_simp
  refine (NU.out _ _).mono ?_
  rintro e v4 ⟨rfl, u⟩
  have u4 : Up W v4 := Up.trans u3 u
  refine hK _ _ (inC u4) ?_
  clear hK K u u3
  refine wpChainT_step (fun K hK => ?_)
  go_simp
  refine (NU.out _ _).mono ?_
  rintro e v5 ⟨rfl, u⟩
  have u5 : Up W v5 := Up.trans u4 u
  refine hK _ _ (inC u5) ?_
  clear hK K u u4
  refine wpChainT_step (fun K hK => ?_)
  go_simp
  refine hK _ _ (inC (u5.alloc _)) ?_
  clear hK K
  refine wpChainT_nm ?_
  intro W4 hW4
  obtain ⟨br, hbr⟩ : ∃ b, b = v5.heap.size := ⟨_, rfl⟩
  rw [← hbr]
  have uw4 : Up W W4 := by rw [hW4]; exact u5.alloc _
  have X4 : Hid (W4.heap[br]? = some (.cells (rowV ((leafIts x).map elIt)).toArray 85 (0, 0))) := by show _ = _; rw [hW4, heap_new hbr]; rfl
  clear hW4 hbr u5
  refine wpChainT_step (fun K hK => ?_)
  go_simp
  refine (NL.out _ _ _ _).mono ?_
  rintro e w6 ⟨rfl, uw6⟩
  have U6 : Up W w6 := Up.trans uw4 uw6
  have X6 := Lib.hid ((uw6.block _ (lt_of_block X4.out)).trans X4.out)
  refine hK _ _ (inC U6) ?_
  clear hK K X4 uw4 uw6
  have hc6 := rencode_its (leafIts x) 6 br _ w6 rfl (by omega) (leafIts_ok HX.out) (leafT_len x) rfl X6.out
  refine wpChainT_step (fun K hK => ?_)
  go_simp
  refine hc6.mono ?_
  rintro e w7 ⟨p7, c7, rfl, u7, g1, g2, g3, g4⟩
  have U7 : Up W w7 := Up.trans U6 u7
  have HG := Lib.hid (g4.less (Up.trans UW.out U6).size)
  have HU7 : Hid (Up w w7) := Up.trans UW.out U7
  refine hK _ _ (inC U7) ?_
  clear hK K hc6 g1 g2 g3 g4 u7 U6 X6
  refine wpChainT_step (fun K hK => ?_)
  go_simp
  refine hK _ _ (inC U7) ?_
  clear hK K
  refine wpChainT_nil ⟨inC U7, ?_⟩
  repeat (refine wpStillC_step (fun K hK => ?_); go_simp; refine hK _ ?_; clear hK K)
  refine wpStillC_nil ?_
  clear U7
  go_wp2
  go_ret
  exact ⟨_, rfl, HG.out, HU7.out⟩
theorem rleafText_calls (x : Sh) (hx : x.wf) (w : World) : Calls Tryd.prog 23 #[.agg (shCells x)] w (RetB w (leafT x)) := (rleafText_callsO x hx w).mono fun _ _ h => h.b


set_option maxHeartbeats 2000000 in
theorem rnodeText_callsO (s t : Sm) (hs : s.wf) (ht : t.wf) (w : World) : Calls Tryd.prog 61 #[.agg (smCells s).toArray, .agg (smCells t).toArray] w (RetO w (nodeT s t)) := by
  have HSW := Lib.hid hs
  have HTW := Lib.hid ht
  have NU := Lib.hid rc_Int
  have NT := Lib.hid rc_Text
  have NL := Lib.hid rc_List
  obtain ⟨A, hA⟩ : ∃ A, A = (smCells s).toArray := ⟨_, rfl⟩
  obtain ⟨B, hB⟩ : ∃ B, B = (smCells t).toArray := ⟨_, rfl⟩
  rw [← hA, ← hB]
  have HA := Lib.hid hA
  have HB := Lib.hid hB
  clear hA hB hs ht
  go_enter Tryd.func61, Tryd.ntmps61
  go_wp2_with fail
  refine wp_named ?_
  intro W0 hW0
  obtain ⟨bx, hbx⟩ : ∃ b, b = w.heap.size := ⟨_, rfl⟩
  have x1 : W0.heap[bx]? = some (.cells A 28 (0, 0)) := by rw [hW0, hbx]; exact (((Up.refl _).alloc _).block w.heap.size (by simp)).trans (heap_new rfl)
  have y1 : W0.heap[bx + 1]? = some (.cells B 28 (0, 0)) := by rw [hW0]; exact heap_new (by simp [hbx])
  have u0 : Up w W0 := by rw [hW0]; exact ((Up.refl w).alloc _).alloc _
  have X1 := Lib.hid x1
  have Y1 := Lib.hid y1
  have U0 := Lib.hid u0
  rw [← hbx]
  clear hW0 hbx x1 y1 u0
  refine wp_region_mixT_at [1, 2, 3, 5, 6, 8, 9, 11, 12, 14, 15, 16, 18, 19, 21, 22, 24, 25] [0, 4, 7, 10, 13, 17, 20, 23, 26, 27, 28, 29, 30] [31, 32, 33, 34] (by kernel_rfl) (by kernel_rfl) (fun _ _ d _ _ h => by cases d <;> exact h) ?_
  intro W U hW
  refine ⟨fun W' => Up W W', Up.refl _, ?_⟩
  have XW : Hid (W.heap[bx]? = some (.cells A 28 (0, 0))) := by show _ = _; rw [hW]; exact X1.out
  have YW : Hid (W.heap[bx + 1]? = some (.cells B 28 (0, 0))) := by show _ = _; rw [hW]; exact Y1.out
  have UW : Hid (Up w W) := Up.trans U0.out U
  haveI : Nonempty (InC (fun W' => Up W W')) := ⟨⟨W, Up.refl _⟩⟩
  have hx : ∀ y : InC (fun W' => Up W W'), y.w.heap[bx]? = some (.cells A 28 (0, 0)) := fun y => (y.h.block bx (lt_of_block XW.out)).trans XW.out
  have hy : ∀ y : InC (fun W' => Up W W'), y.w.heap[bx + 1]? = some (.cells B 28 (0, 0)) := fun y => (y.h.block (bx + 1) (lt_of_block YW.out)).trans YW.out
  have k1 : ∀ y : InC (fun W' => Up W W'), y.w.cell? ⟨bx, 32, none⟩ = some (.int .i64 s.litres) := fun y => (cell_of_row y.w bx 32 _ _ _ (hx y)).trans (by rw [HA.out]; exact sm_c32 HSW.out.hash)
  have k2 : ∀ y : InC (fun W' => Up W W'), y.w.cell? ⟨bx, 33, none⟩ = some (.int .i64 s.price) := fun y => (cell_of_row y.w bx 33 _ _ _ (hx y)).trans (by rw [HA.out]; exact sm_c33 HSW.out.hash)
  have k3 : ∀ y : InC (fun W' => Up W W'), y.w.cell? ⟨bx, 34, none⟩ = some (.int .i64 s.cut) := fun y => (cell_of_row y.w bx 34 _ _ _ (hx y)).trans (by rw [HA.out]; exact sm_c34 HSW.out.hash)
  have k4 : ∀ y : InC (fun W' => Up W W'), y.w.cell? ⟨bx + 1, 32, none⟩ = some (.int .i64 t.litres) := fun y => (cell_of_row y.w (bx + 1) 32 _ _ _ (hy y)).trans (by rw [HB.out]; exact sm_c32 HTW.out.hash)
  have k5 : ∀ y : InC (fun W' => Up W W'), y.w.cell? ⟨bx + 1, 33, none⟩ = some (.int .i64 t.price) := fun y => (cell_of_row y.w (bx + 1) 33 _ _ _ (hy y)).trans (by rw [HB.out]; exact sm_c33 HTW.out.hash)
  have k6 : ∀ y : InC (fun W' => Up W W'), y.w.cell? ⟨bx + 1, 34, none⟩ = some (.int .i64 t.cut) := fun y => (cell_of_row y.w (bx + 1) 34 _ _ _ (hy y)).trans (by rw [HB.out]; exact sm_c34 HTW.out.hash)
  have c1 : ∀ y : InC (fun W' => Up W W'), (convert 45 9 (.slice (some ⟨bx, 0, none⟩) 32 32)).run Tryd.prog y.w = .ok (.string (bsOf s.hash)) y.w := fun y => by
    have h := run_text_of y.w (some ⟨bx, 0, none⟩) 32 s.hash (sm_hash HSW.out.hash (by rw [← HA.out]; exact hx y))
    rw [HSW.out.hash] at h; exact h
  have c2 : ∀ y : InC (fun W' => Up W W'), (convert 45 9 (.slice (some ⟨bx + 1, 0, none⟩) 32 32)).run Tryd.prog y.w = .ok (.string (bsOf t.hash)) y.w := fun y => by
    have h := run_text_of y.w (some ⟨bx + 1, 0, none⟩) 32 t.hash (sm_hash HTW.out.hash (by rw [← HB.out]; exact hy y))
    rw [HTW.out.hash] at h; exact h
  clear hx hy U hW
  simp only [pick, List.getElem?_cons_zero, List.getElem?_cons_succ]
  repeat (refine wpStillC_step (fun K hK => ?_); go_simp; refine hK _ ?_; clear hK K)
  refine wpStillC_nil ?_
  clear k1 k2 k3 k4 k5 k6 c1 c2
  refine wpChainT_step (fun K hK => ?_)
  go_simp
  refine (NT.out _ _).mono ?_
  rintro e v0 ⟨rfl, u⟩
  have u0 : Up W v0 := Up.trans (Up.refl W) u
  refine hK _ _ (inC u0) ?_
  clear hK K u
  refine wpChainT_step (fun K hK => ?_)
  go_simp
  refine (NT.out _ _).mono ?_
  rintro e v1 ⟨rfl, u⟩
  have u1 : Up W v1 := Up.trans u0 u
  refine hK _ _ (inC u1) ?_
  clear hK K u u0
  refine wpChainT_step (fun K hK => ?_)
  go_simp
  refine (NU.out _ _).mono ?_
  rintro e v2 ⟨rfl, u⟩
  have u2 : Up W v2 := Up.trans u1 u
  refine hK _ _ (inC u2) ?_
  clear hK K u u1
  refine wpChainT_step (fun K hK => ?_)
  go_simp
  refine (NU.out _ _).mono ?_
  rintro e v3 ⟨rfl, u⟩
  have u3 : Up W v3 := Up.trans u2 u
  refine hK _ _ (inC u3) ?_
  clear hK K u u2
  refine wpChainT_step (fun K hK => ?_)
  go_simp
  refine (NU.out _ _).mono ?_
  rintro e v4 ⟨rfl, u⟩
  have u4 : Up W v4 := Up.trans u3 u
  refine hK _ _ (inC u4) ?_
  clear hK K u u3
  refine wpChainT_step (fun K hK => ?_)
  go_simp
  refine (NT.out _ _).mono ?_
  rintro e v5 ⟨rfl, u⟩
  have u5 : Up W v5 := Up.trans u4 u
  refine hK _ _ (inC u5) ?_
  clear hK K u u4
  refine wpChainT_step (fun K hK => ?_)
  go_simp
  refine (NU.out _ _).mono ?_
  rintro e v6 ⟨rfl, u⟩
  have u6 : Up W v6 := Up.trans u5 u
  refine hK _ _ (inC u6) ?_
  clear hK K u u5
  refine wpChainT_step (fun K hK => ?_)
  go_simp
  refine (NU.out _ _).mono ?_
  rintro e v7 ⟨rfl, u⟩
  have u7 : Up W v7 := Up.trans u6 u
  refine hK _ _ (inC u7) ?_
  clear hK K u u6
  refine wpChainT_step (fun K hK => ?_)
  go_simp
  refine (NU.out _ _).mono ?_
  rintro e v8 ⟨rfl, u⟩
  have u8 : Up W v8 := Up.trans u7 u
  refine hK _ _ (inC u8) ?_
  clear hK K u u7
  refine wpChainT_step (fun K hK => ?_)
  go_simp
  refine hK _ _ (inC (u8.alloc _)) ?_
  clear hK K
  refine wpChainT_nm ?_
  intro W4 hW4
  obtain ⟨br, hbr⟩ : ∃ b, b = v8.heap.size := ⟨_, rfl⟩
  rw [← hbr]
  have uw4 : Up W W4 := by rw [hW4]; exact u8.alloc _
  have X4 : Hid (W4.heap[br]? = some (.cells (rowV ((nodeIts s t).map elIt)).toArray 85 (0, 0))) := by show _ = _; rw [hW4, heap_new hbr]; rfl
  clear hW4 hbr u8
  refine wpChainT_step (fun K hK => ?_)
  go_simp
  refine (NL.out _ _ _ _).mono ?_
  rintro e w6 ⟨rfl, uw6⟩
  have U6 : Up W w6 := Up.trans uw4 uw6
  have X6 := Lib.hid ((uw6.block _ (lt_of_block X4.out)).trans X4.out)
  refine hK _ _ (inC U6) ?_
  clear hK K X4 uw4 uw6
  have hc6 := rencode_its (nodeIts s t) 9 br _ w6 rfl (by omega) (nodeIts_ok HSW.out HTW.out) (nodeT_len HSW.out.hash HTW.out.hash) rfl X6.out
  refine wpChainT_step (fun K hK => ?_)
  go_simp
  refine hc6.mono ?_
  rintro e w7 ⟨p7, c7, rfl, u7, g1, g2, g3, g4⟩
  have U7 : Up W w7 := Up.trans U6 u7
  have HG := Lib.hid (g4.less (Up.trans UW.out U6).size)
  have HU7 : Hid (Up w w7) := Up.trans UW.out U7
  refine hK _ _ (inC U7) ?_
  clear hK K hc6 g1 g2 g3 g4 u7 U6 X6
  refine wpChainT_step (fun K hK => ?_)
  go_simp
  refine hK _ _ (inC U7) ?_
  clear hK K
  refine wpChainT_nil ⟨inC U7, ?_⟩
  repeat (refine wpStillC_step (fun K hK => ?_); go_simp; refine hK _ ?_; clear hK K)
  refine wpStillC_nil ?_
  clear U7
  go_wp2
  go_ret
  exact ⟨_, rfl, HG.out, HU7.out⟩
theorem rnodeText_calls (s t : Sm) (hs : s.wf) (ht : t.wf) (w : World) : Calls Tryd.prog 61 #[.agg (smCells s).toArray, .agg (smCells t).toArray] w (RetB w (nodeT s t)) := (rnodeText_callsO s t hs ht w).mono fun _ _ h => h.b


end Go.Proofs.YtobcfhninchnkaaDoor

namespace Go.Proofs.YtobcfhninchnkaaDoor
open Go Go.RowKit
set_option linter.unusedVariables false
set_option maxRecDepth 100000

def fx0 : Sh := ⟨1, 5, 2, 0, 9⟩
def fx1 : Sh := ⟨4, 7, 0, 3, 0⟩
def fx2 : Sh := ⟨599, 0, 1099511627776, 0, 0⟩
def fx1' : Sh := ⟨4, 8, 0, 3, 0⟩
def fL : List Sh := [fx0, fx1, fx2]
def fAll : Sm := nodeS (nodeS (leafS fx0) (leafS fx1)) (leafS fx2)
def fP1 : List Sm := [leafS fx0, leafS fx2]
def fP2 : List Sm := [nodeS (leafS fx0) (leafS fx1)]
theorem hf3 : hf 3 = 2 := by decide +kernel
theorem hf2 : hf 2 = 1 := by decide +kernel
theorem turns30 : turnsS 3 0 = [(2, 1), (1, 1)] := by
  rw [turnsS_left (by omega) (by rw [hf3]; omega), hf3, turnsS_left (by omega) (by rw [hf2]; omega), hf2, turnsS_one 0 (by omega)]
theorem turns31 : turnsS 3 1 = [(2, 1), (1, 0)] := by
  rw [turnsS_left (by omega) (by rw [hf3]; omega), hf3, turnsS_right (by omega) (by rw [hf2]; omega), hf2, turnsS_one _ (by omega)]
theorem turns32 : turnsS 3 2 = [(2, 0)] := by
  rw [turnsS_right (by omega) (by rw [hf3]; omega), hf3, turnsS_one _ (by omega)]
theorem tree2 (x y : Sh) : treeS [x, y] = nodeS (leafS x) (leafS y) := by
  rw [treeS_two (by simp)]
  simp only [List.length_cons, List.length_nil, Nat.zero_add, Nat.reduceAdd, hf2, List.take_succ_cons, List.take_zero, List.drop_succ_cons, List.drop_zero, treeS_one]
theorem tree3 : treeS fL = fAll := by
  unfold fL fAll
  rw [treeS_two (by simp)]
  simp only [List.length_cons, List.length_nil, Nat.zero_add, Nat.reduceAdd, hf3, List.take_succ_cons, List.take_zero, List.drop_succ_cons, List.drop_zero, treeS_one, tree2]
theorem path31 : pathS fL 1 = fP1 := by
  unfold pathS fL fP1
  rw [pathD_left (by simp) (by simp [hf3])]
  simp only [List.length_cons, List.length_nil, Nat.zero_add, Nat.reduceAdd, hf3, List.take_succ_cons, List.take_zero, List.drop_succ_cons, List.drop_zero, treeS_one]
  rw [pathD_right (by simp) (by simp [hf2])]
  simp only [List.length_cons, List.length_nil, Nat.zero_add, Nat.reduceAdd, hf2, List.take_succ_cons, List.take_zero, List.drop_succ_cons, List.drop_zero, treeS_one]
  rw [pathD_one _ (by simp)]
  rfl
theorem path32 : pathS fL 2 = fP2 := by
  unfold pathS fL fP2
  rw [pathD_right (by simp) (by simp [hf3])]
  simp only [List.length_cons, List.length_nil, Nat.zero_add, Nat.reduceAdd, hf3, List.take_succ_cons, List.take_zero, List.drop_succ_cons, List.drop_zero, tree2]
  rw [pathD_one _ (by simp)]
  rfl
theorem chk1 : chkE [fx0] = 0 := by decide
theorem chk3 : chkE fL = 0 := by decide
theorem chk0 : chkE [] = 2 := by decide
theorem root1 : rootS [fx0] = leafS fx0 := by unfold rootS; rw [if_pos chk1, treeS_one]
theorem root3 : rootS fL = fAll := by unfold rootS; rw [if_pos chk3, tree3]
theorem root0 : rootS [] = zeroS := by unfold rootS; rw [if_neg (by rw [chk0]; omega)]
theorem prov1E : provE fL 1 = 0 := by unfold provE; rw [chk3]; simp [fL]
theorem prov2E : provE fL 2 = 0 := by unfold provE; rw [chk3]; simp [fL]
theorem prov3E : provE fL 3 = 1 := by unfold provE; rw [chk3]; simp [fL]
theorem prov1S : provS fL 1 = fP1 := by unfold provS; rw [prov1E, if_pos rfl]; exact path31
theorem prov2S : provS fL 2 = fP2 := by unfold provS; rw [prov2E, if_pos rfl]; exact path32
theorem prov3S : provS fL 3 = [] := by unfold provS; rw [prov3E, if_neg (by omega)]
theorem fP1_right : fP1.all rightB = true := by
  simp only [fP1, List.all_cons, List.all_nil, Bool.and_true, Bool.and_eq_true]
  exact ⟨by decide, by decide⟩
theorem fP2_right : fP2.all rightB = true := by
  simp only [fP2, List.all_cons, List.all_nil, Bool.and_true]
  decide
theorem climb10 : climbE 1 0 fx0 fP1 = 570 := by
  have h : badClimb 1 0 fx0 fP1 = true := by
    unfold badClimb
    rw [show (1 : Int).toNat = 1 from rfl, show (0 : Int).toNat = 0 from rfl, turnsS_one 0 (by omega)]
    simp [fP1]
  unfold climbE
  rw [if_neg (by omega), if_neg (by omega), h]; rfl
theorem climb3E (i : Nat) (x : Sh) (ps : List Sm) (hi : i < 3) (hf : fineB x = true) (hl : ps.length = (turnsS 3 i).length) (hr : ps.all rightB = true) : climbE 3 i x ps = 0 := by
  have h : badClimb 3 i x ps = false := by
    unfold badClimb
    rw [show (3 : Int).toNat = 3 from rfl, Int.toNat_natCast, hf, hr, hl]; simp
  unfold climbE
  rw [if_neg (by omega), if_neg (by omega), h]; rfl
theorem climb3S (i : Nat) (x : Sh) (ps : List Sm) (hi : i < 3) (hf : fineB x = true) (hl : ps.length = (turnsS 3 i).length) (hr : ps.all rightB = true) : climbS 3 i x ps = climbAt (leafS x) (turnsS 3 i).reverse ps ps.length := by
  unfold climbS
  rw [climb3E i x ps hi hf hl hr, if_pos rfl, show (3 : Int).toNat = 3 from rfl, Int.toNat_natCast]
theorem check1 : checkB fAll 3 1 fx1 fP1 = true := by
  unfold checkB
  have e := climb3E 1 fx1 fP1 (by omega) (by decide) (by rw [turns31]; rfl) fP1_right
  have s := climb3S 1 fx1 fP1 (by omega) (by decide) (by rw [turns31]; rfl) fP1_right
  rw [show ((1 : Nat) : Int) = 1 from rfl] at e s
  rw [e, s, turns31]
  simp [climbAt, fP1, upSum, sideA, sideB, fAll]
theorem check2 : checkB fAll 3 2 fx2 fP2 = true := by
  unfold checkB
  have e := climb3E 2 fx2 fP2 (by omega) (by decide) (by rw [turns32]; rfl) fP2_right
  have s := climb3S 2 fx2 fP2 (by omega) (by decide) (by rw [turns32]; rfl) fP2_right
  rw [show ((2 : Nat) : Int) = 2 from rfl] at e s
  rw [e, s, turns32]
  simp [climbAt, fP2, upSum, sideA, sideB, fAll]
theorem sane_hash : (nodeS (nodeS (leafS fx1) (leafS fx0)) (leafS fx2)).hash ≠ (nodeS (nodeS (leafS fx0) (leafS fx1)) (leafS fx2)).hash := by decide +kernel
theorem check3 : checkB fAll 3 0 fx1 fP1 = false := by
  unfold checkB
  have s := climb3S 0 fx1 fP1 (by omega) (by decide) (by rw [turns30]; rfl) fP1_right
  rw [show ((0 : Nat) : Int) = 0 from rfl] at s
  rw [s, turns30]
  have : climbAt (leafS fx1) ([(2, 1), (1, 1)] : List (Nat × Nat)).reverse fP1 fP1.length = nodeS (nodeS (leafS fx1) (leafS fx0)) (leafS fx2) := by simp [climbAt, fP1, upSum, sideA, sideB]
  rw [this]
  have h2 : decide (nodeS (nodeS (leafS fx1) (leafS fx0)) (leafS fx2) = fAll) = false := decide_eq_false fun h => sane_hash (congrArg Sm.hash h)
  rw [h2, Bool.and_false]
theorem check4 : checkB fAll 3 1 fx1' fP1 = false := by
  unfold checkB
  have s := climb3S 1 fx1' fP1 (by omega) (by decide) (by rw [turns31]; rfl) fP1_right
  rw [show ((1 : Nat) : Int) = 1 from rfl] at s
  rw [s, turns31]
  have : climbAt (leafS fx1') ([(2, 1), (1, 0)] : List (Nat × Nat)).reverse fP1 fP1.length = nodeS (nodeS (leafS fx0) (leafS fx1')) (leafS fx2) := by simp [climbAt, fP1, upSum, sideA, sideB]
  rw [this]
  have h2 : decide (nodeS (nodeS (leafS fx0) (leafS fx1')) (leafS fx2) = fAll) = false := decide_eq_false fun h => by
    have := congrArg Sm.litres h
    revert this
    decide
  rw [h2, Bool.and_false]
theorem fAll_hash : fAll.hash.length = 32 := Sha.sum_length _
theorem fP1_hash : ∀ s ∈ fP1, s.hash.length = 32 := by
  intro s hs
  simp only [fP1, List.mem_cons, List.not_mem_nil, or_false] at hs
  rcases hs with rfl | rfl <;> exact Sha.sum_length _
theorem fP2_hash : ∀ s ∈ fP2, s.hash.length = 32 := by
  intro s hs
  simp only [fP2, List.mem_cons, List.not_mem_nil, or_false] at hs
  subst hs; exact Sha.sum_length _

end Go.Proofs.YtobcfhninchnkaaDoor

namespace Go.Proofs.YtobcfhninchnkaaDoor
open Go Go.RowKit
set_option linter.unusedVariables false
set_option maxRecDepth 100000

set_option maxHeartbeats 1000000 in
theorem few57_calls (w : World) : Calls Tryd.prog 21 #[] w fun e w' => ∃ b, e = .returned (.slice (some ⟨b, 0, none⟩) 3 3) ∧ Shares w' (some ⟨b, 0, none⟩) fL ∧ Up w w' := by
  go_enter Tryd.func21, Tryd.ntmps21
  go_wp2
  go_ret
  have hh : (w.alloc (.cells #[.int .i64 1, .int .i64 5, .int .i64 2, .int .i64 0, .int .i64 9, .int .i64 4, .int .i64 7, .int .i64 0, .int .i64 3, .int .i64 0, .int .i64 599, .int .i64 0, .int .i64 1099511627776, .int .i64 0, .int .i64 0] 38 (0, 0))).heap[w.heap.size]? = _ := heap_new rfl
  refine ⟨w.heap.size, rfl, fun _ => ⟨w.heap.size, 0, rfl, fun i hi => ?_⟩, (Up.refl w).alloc _⟩
  have hi3 : i < 3 := hi
  intro j u hu
  have hj : j < 5 := (List.getElem?_eq_some_iff.1 hu).1
  rw [cell_of_row _ w.heap.size _ _ _ _ hh]
  have : i = 0 ∨ i = 1 ∨ i = 2 := by omega
  rcases this with rfl | rfl | rfl <;> (have : j = 0 ∨ j = 1 ∨ j = 2 ∨ j = 3 ∨ j = 4 := by omega) <;> rcases this with rfl | rfl | rfl | rfl | rfl <;> exact hu

set_option maxHeartbeats 4000000 in
theorem sane57_calls (w : World) (htab : Tabs w) : Calls Tryd.prog 7 #[] w fun e w' => e = .returned (.bool true) ∧ Up w w' := by
  have HT := Lib.hid htab
  clear htab
  go_enter Tryd.func7, Tryd.ntmps7
  go_wp2_with fail
  refine (few57_calls w).mono ?_
  rintro e w1 ⟨bf, rfl, hsh, u1⟩
  have U1 := Lib.hid u1
  have SH := Lib.hid hsh
  clear u1 hsh
  have R1 := Lib.hid fun W (hu : Up w1 W) => root_calls (some ⟨bf, 0, none⟩) 1 3 [fx0] W rfl ((SH.out.up hu).take 1) (by omega) (by unfold maxLen; omega) (HT.out.up (Up.trans U1.out hu))
  have R3 := Lib.hid fun W (hu : Up w1 W) => root_calls (some ⟨bf, 0, none⟩) 3 3 fL W rfl (SH.out.up hu) (by omega) (by unfold maxLen; omega) (HT.out.up (Up.trans U1.out hu))
  have R0 := Lib.hid fun W (hu : Up w1 W) => root_calls none 0 0 [] W rfl (Shares.nil _ _) (by omega) (by unfold maxLen; omega) (HT.out.up (Up.trans U1.out hu))
  have PV1 := Lib.hid fun W (hu : Up w1 W) => prove_calls (some ⟨bf, 0, none⟩) 3 3 fL 1 W rfl (SH.out.up hu) (by omega) (by unfold maxLen; omega) (HT.out.up (Up.trans U1.out hu))
  have PV2 := Lib.hid fun W (hu : Up w1 W) => prove_calls (some ⟨bf, 0, none⟩) 3 3 fL 2 W rfl (SH.out.up hu) (by omega) (by unfold maxLen; omega) (HT.out.up (Up.trans U1.out hu))
  have PV3 := Lib.hid fun W (hu : Up w1 W) => prove_calls (some ⟨bf, 0, none⟩) 3 3 fL 3 W rfl (SH.out.up hu) (by omega) (by unfold maxLen; omega) (HT.out.up (Up.trans U1.out hu))
  rw [chk1, root1] at R1
  rw [chk3, root3] at R3
  rw [chk0, root0] at R0
  rw [prov1S, prov1E] at PV1
  rw [prov2S, prov2E] at PV2
  rw [prov3S, prov3E] at PV3
  have h1 : (leafS fx0).hash.length = 32 := Sha.sum_length _
  have h3 := fAll_hash
  have EQ1 := fun W => run_neq_sum (leafS fx0) (leafS fx0) W h1 h1
  have EQD := fun W => run_neq_digest (leafS fx0).hash (leafS fx0).hash W h1 h1
  rw [show (!decide (leafS fx0 = leafS fx0)) = false by simp] at EQ1
  rw [show (!decide ((leafS fx0).hash = (leafS fx0).hash)) = false by simp] at EQD
  have SM := Lib.hid fun w p c h1 h2 h3 (ht : Tabs w) => sum_calls p c (leafT fx0) w h1 h2 h3 ht.1 ht.2
  have eSM : Sha.sum (leafT fx0) = (leafS fx0).hash := rfl
  rw [eSM] at SM
  obtain ⟨H, hH⟩ : ∃ H, H = (u8s (leafS fx0).hash).toArray := ⟨_, rfl⟩
  have Hs : Hid (H.size = 32) := by show _ = _; rw [hH, u8s_arr]; exact h1
  have HH := Lib.hid hH
  obtain ⟨D1, hD1⟩ : ∃ D, D = (smCells (leafS fx0)).toArray := ⟨_, rfl⟩
  have D1s : Hid (D1.size = 35) := by have := smCells_len h1; show _ = _; rw [hD1]; simpa using this
  have D1c : Hid (D1.all (·.oneCell') = true) := by rw [hD1]; exact smCells_all _
  obtain ⟨D3, hD3⟩ : ∃ D, D = (smCells fAll).toArray := ⟨_, rfl⟩
  have D3s : Hid (D3.size = 35) := by have := smCells_len h3; show _ = _; rw [hD3]; simpa using this
  have D3c : Hid (D3.all (·.oneCell') = true) := by rw [hD3]; exact smCells_all _
  obtain ⟨D0, hD0⟩ : ∃ D, D = (smCells zeroS).toArray := ⟨_, rfl⟩
  have D0s : Hid (D0.size = 35) := by have := smCells_len (rfl : zeroS.hash.length = 32); show _ = _; rw [hD0]; simpa using this
  have D0c : Hid (D0.all (·.oneCell') = true) := by rw [hD0]; exact smCells_all _
  have D1h : Hid (∀ j, j < 32 → D1[j]? = H[j]?) := fun j hj => by rw [hD1, hH]; simp only [smCells, List.getElem?_toArray]; rw [List.getElem?_append_left (by rw [u8s_length, h1]; exact hj)]
  have D1a : Hid (D1[32]? = some (.int .i64 5)) := by show _ = _; rw [hD1]; exact sm_c32 h1
  have D1b : Hid (D1[33]? = some (.int .i64 2)) := by show _ = _; rw [hD1]; exact sm_c33 h1
  have D1c' : Hid (D1[34]? = some (.int .i64 0)) := by show _ = _; rw [hD1]; exact sm_c34 h1
  have D3a : Hid (D3[32]? = some (.int .i64 12)) := by show _ = _; rw [hD3]; exact sm_c32 h3
  have D3b : Hid (D3[33]? = some (.int .i64 1099511627778)) := by show _ = _; rw [hD3]; exact sm_c33 h3
  have D3c' : Hid (D3[34]? = some (.int .i64 3)) := by show _ = _; rw [hD3]; exact sm_c34 h3
  rw [← hD1] at R1 EQ1
  rw [← hD3] at R3
  rw [← hD0] at R0
  rw [← hH] at SM EQD
  have HD3 := Lib.hid hD3
  have HD1 := Lib.hid hD1
  have CL := Lib.hid fun p c W (hu : Up w1 W) (hr : RowAt W p 35 smCells fP1) (hc : 2 ≤ c) (hcm : c ≤ maxLen) => climb_calls 1 0 fx0 p 2 c fP1 W rfl fP1_hash hr hc hcm (HT.out.up (Up.trans U1.out hu))
  rw [climb10] at CL
  have hcl := climbS_hash 1 0 fx0 fP1
  obtain ⟨D4, hD4⟩ : ∃ D, D = (smCells (climbS 1 0 fx0 fP1)).toArray := ⟨_, rfl⟩
  have D4s : Hid (D4.size = 35) := by have := smCells_len hcl; show _ = _; rw [hD4]; simpa using this
  have D4c : Hid (D4.all (·.oneCell') = true) := by rw [hD4]; exact smCells_all _
  rw [← hD4] at CL
  have LT := Lib.hid fun W => rleafText_calls fx0 (fineB_wf (show fineB fx0 = true by decide)).1 W
  obtain ⟨bf', o', ebf, hrg⟩ := SH.out (by unfold fL; simp)
  injection ebf with ebf
  injection ebf with e1 e2
  subst e1 e2
  have g0 := hrg 0 (by show 0 < 3; omega)
  have g1 := hrg 1 (by show 1 < 3; omega)
  have g2 := hrg 2 (by show 2 < 3; omega)
  rw [show fL[0]'(by show 0 < 3; omega) = fx0 from rfl, show 0 + 0 * 5 = 0 from rfl] at g0
  rw [show fL[1]'(by show 1 < 3; omega) = fx1 from rfl, show 0 + 1 * 5 = 5 from rfl] at g1
  rw [show fL[2]'(by show 2 < 3; omega) = fx2 from rfl, show 0 + 2 * 5 = 10 from rfl] at g2
  obtain ⟨X0, hX0⟩ : ∃ X, X = shCells fx0 := ⟨_, rfl⟩
  obtain ⟨X1, hX1⟩ : ∃ X, X = shCells fx1 := ⟨_, rfl⟩
  obtain ⟨X2, hX2⟩ : ∃ X, X = shCells fx2 := ⟨_, rfl⟩
  have X0s : Hid (X0.size = 5) := by show _ = _; rw [hX0]; rfl
  have X1s : Hid (X1.size = 5) := by show _ = _; rw [hX1]; rfl
  have X2s : Hid (X2.size = 5) := by show _ = _; rw [hX2]; rfl
  have X1c : Hid (X1.all (·.oneCell') = true) := by rw [hX1]; exact shCells_all _
  rw [← hX0] at g0 CL LT
  rw [← hX1] at g1
  rw [← hX2] at g2
  have G0 := Lib.hid g0
  have G1 := Lib.hid g1
  have G2 := Lib.hid g2
  have HX1 := Lib.hid hX1
  have HX2 := Lib.hid hX2
  clear hX0 hX1 hX2 g0 g1 g2 hrg hD1 hD3 hD0 hD4 hcl hH h1 h3 eSM
  go_wp2_with fail
  refine (R1.out w1 (Up.refl _)).mono ?_
  rintro e w2 ⟨rfl, u2⟩
  have V2' := Lib.hid u2
  clear u2
  go_wp2_with (first | (refine wpList_allocG rfl 28 35 allocsSum rfl ?_; intro A2 au az ahz; obtain ⟨Z2, hZz, hbz⟩ := ahz; have AU2 := Lib.hid au; have HZ2 := Lib.hid hZz; have HB2 := Lib.hid hbz; clear au az hZz hbz) | (refine wpList_store_row rfl 28 (.tmp 2) (.tmp 22) rfl _ D1 rfl rfl 28 _ HB2.out (by rw [D1s.out]; rfl) (by rw [HZ2.out, D1s.out]) D1c.out ?_; refine wpList_named ?_; intro W2 hWn; (have un := setRow_upN hWn AU2.out (Nat.le_refl _)); (have pn := setRow_named hWn HB2.out); have P2 := Lib.hid pn; have UN2 := Lib.hid un; have V2 := Lib.hid (Up.trans V2'.out un); clear un pn hWn))
  refine (R3.out W2 V2.out).mono ?_
  rintro e w3 ⟨rfl, u3⟩
  have V3' := Lib.hid (Up.trans V2.out u3)
  have P2a := Lib.hid ((u3.block _ (lt_of_block P2.out)).trans P2.out)
  clear u3
  go_wp2_with (first | (refine wpList_allocG rfl 28 35 allocsSum rfl ?_; intro A3 au az ahz; obtain ⟨Z3, hZz, hbz⟩ := ahz; have AU3 := Lib.hid au; have HZ3 := Lib.hid hZz; have HB3 := Lib.hid hbz; clear au az hZz hbz) | (refine wpList_store_row rfl 28 (.tmp 4) (.tmp 27) rfl _ D3 rfl rfl 28 _ HB3.out (by rw [D3s.out]; rfl) (by rw [HZ3.out, D3s.out]) D3c.out ?_; refine wpList_named ?_; intro W3 hWn; (have un := setRow_upN hWn AU3.out (Nat.le_refl _)); (have pn := setRow_named hWn HB3.out); have P3 := Lib.hid pn; have UN3 := Lib.hid un; have V3 := Lib.hid (Up.trans V3'.out un); clear un pn hWn))
  obtain ⟨b2, hb2⟩ : ∃ b, b = w2.heap.size := ⟨_, rfl⟩
  obtain ⟨b4, hb4⟩ : ∃ b, b = w3.heap.size := ⟨_, rfl⟩
  rw [← hb4] at P3
  rw [← hb2] at P2a
  rw [← hb2, ← hb4]
  have P2b := Lib.hid ((UN3.out.block _ (lt_of_block P2a.out)).trans P2a.out)
  clear hb2 hb4 P2a P2 AU2 AU3 HB2 HB3 UN2 UN3
  refine (PV1.out W3 V3.out).mono ?_
  rintro e w4 ⟨v1, rfl, o4, u4⟩
  obtain ⟨p1, c1, rfl, q1, q2, q3, -⟩ := o4.form (fun x hx => smCells_len (fP1_hash x hx))
  have V4 := Lib.hid (Up.trans V3.out u4)
  have PP1 := Lib.hid q3
  have Q1 := Lib.hid (And.intro q1 q2)
  have U34 := Lib.hid u4
  rw [show fP1.length = 2 from rfl]
  clear o4 u4 q1 q2 q3
  go_wp2_with fail
  refine (PV2.out w4 V4.out).mono ?_
  rintro e w5 ⟨v2, rfl, o5, u5⟩
  obtain ⟨p2, c2, rfl, q1, q2, q3, -⟩ := o5.form (fun x hx => smCells_len (fP2_hash x hx))
  have V5 := Lib.hid (Up.trans V4.out u5)
  have PP2 := Lib.hid q3
  have Q2 := Lib.hid (And.intro q1 q2)
  have PP1a := Lib.hid (PP1.out.up u5)
  have U45 := Lib.hid u5
  rw [show fP2.length = 1 from rfl]
  clear o5 u5 q1 q2 q3 PP1
  go_wp2_with fail
  refine (R0.out w5 V5.out).mono ?_
  rintro e w6 ⟨rfl, u6⟩
  have V6' := Lib.hid (Up.trans V5.out u6)
  have U56 := Lib.hid u6
  clear u6
  go_wp2_with (first | (refine wpList_allocG rfl 28 35 allocsSum rfl ?_; intro A6 au az ahz; obtain ⟨Z6, hZz, hbz⟩ := ahz; have AU6 := Lib.hid au; have HZ6 := Lib.hid hZz; have HB6 := Lib.hid hbz; clear au az hZz hbz) | (refine wpList_store_row rfl 28 (.tmp 10) (.tmp 41) rfl _ D0 rfl rfl 28 _ HB6.out (by rw [D0s.out]; rfl) (by rw [HZ6.out, D0s.out]) D0c.out ?_; refine wpList_named ?_; intro W6 hWn; (have un := setRow_upN hWn AU6.out (Nat.le_refl _)); (have pn := setRow_named hWn HB6.out); have P6 := Lib.hid pn; have UN6 := Lib.hid un; have V6 := Lib.hid (Up.trans V6'.out un); clear un pn hWn))
  refine (PV3.out W6 V6.out).mono ?_
  rintro e w7 ⟨v3, rfl, o7, u7⟩
  obtain ⟨p3, c3, rfl, -, -, -, -⟩ := o7.form (fun x hx => by cases hx)
  have V7 := Lib.hid (Up.trans V6.out u7)
  have UU7 := Lib.hid u7
  clear o7 u7
  go_wp2_with (refine wpList_load_arr rfl 38 (.tmp 50) rfl bf 0 rfl X0 _ (rangeAt_up G0.out V7.out) rfl rfl (by rw [X0s.out]; rfl) ?_)
  have PP1b := Lib.hid (((PP1a.out.up U56.out).up UN6.out).up UU7.out)
  have PP2b := Lib.hid (((PP2.out.up U56.out).up UN6.out).up UU7.out)
  have U37 : Hid (Up W3 w7) := Up.trans U34.out (Up.trans U45.out (Up.trans U56.out (Up.trans UN6.out UU7.out)))
  refine (CL.out p1 c1 w7 V7.out PP1b.out Q1.out.1 Q1.out.2).mono ?_
  rintro e w8 ⟨rfl, u8⟩
  have V8' := Lib.hid (Up.trans V7.out u8)
  have U78 := Lib.hid u8
  clear u8 AU6 HB6 P6 V6' U34 U45 PP1a PP2 UU7 UN6
  go_wp2_with (first | (refine wpList_allocG rfl 28 35 allocsSum rfl ?_; intro A8 au az ahz; obtain ⟨Z8, hZz, hbz⟩ := ahz; have AU8 := Lib.hid au; have HZ8 := Lib.hid hZz; have HB8 := Lib.hid hbz; clear au az hZz hbz) | (refine wpList_store_row rfl 28 (.tmp 14) (.tmp 54) rfl _ D4 rfl rfl 28 _ HB8.out (by rw [D4s.out]; rfl) (by rw [HZ8.out, D4s.out]) D4c.out ?_; refine wpList_named ?_; intro W8 hWn; (have un := setRow_upN hWn AU8.out (Nat.le_refl _)); (have pn := setRow_named hWn HB8.out); have P8 := Lib.hid pn; have UN8 := Lib.hid un; have V8 := Lib.hid (Up.trans V8'.out un); clear un pn hWn))
  have U38 : Hid (Up W3 W8) := Up.trans U37.out (Up.trans U78.out UN8.out)
  have PP1c := Lib.hid ((PP1b.out.up U78.out).up UN8.out)
  have PP2c := Lib.hid ((PP2b.out.up U78.out).up UN8.out)
  have X2a := Lib.hid ((U38.out.block _ (lt_of_block P2b.out)).trans P2b.out)
  have X4a := Lib.hid ((U38.out.block _ (lt_of_block P3.out)).trans P3.out)
  obtain ⟨bp, op, rfl, hpr⟩ := PP1c.out (by unfold fP1; simp)
  have hp0 := hpr 0 (by show 0 < 2; omega)
  rw [show fP1[0]'(by show 0 < 2; omega) = leafS fx0 from rfl, show op + 0 * 35 = op by omega] at hp0
  have HP0 : Hid (W8.rangeAt bp op D1.toList) := by rw [HD1.out]; exact hp0
  clear hpr hp0 P8 AU8 HB8 UN8 U78 PP1b PP2b U37 V8'
  refine wp_region_mixT_at [0, 1, 2, 3, 4] [5, 6] [7, 8, 9, 10, 11, 12, 13, 14, 15, 16, 17, 18, 19, 20, 21, 22, 23, 24, 25, 26, 27, 28, 29, 30, 31, 32, 33, 34, 35, 36, 37, 38, 39, 40, 41, 42, 43, 44] (by kernel_rfl) (by kernel_rfl) (fun _ _ d _ _ h => by cases d <;> exact h) ?_
  intro W9 u9 hW9
  have hx2 : W9.heap[b2]? = some (.cells D1 28 (0, 0)) := by rw [hW9]; exact X2a.out
  have hx4 : W9.heap[b4]? = some (.cells D3 28 (0, 0)) := by rw [hW9]; exact X4a.out
  have V9 := Lib.hid (Up.trans V8.out u9)
  have U9 := Lib.hid u9
  refine ⟨fun W' => Up W9 W', Up.refl _, ?_⟩
  haveI : Nonempty (InC (fun W' => Up W9 W')) := ⟨⟨W9, Up.refl _⟩⟩
  have ky2 : ∀ y : InC (fun W' => Up W9 W'), y.w.heap[b2]? = some (.cells D1 28 (0, 0)) := fun y => (y.h.block b2 (lt_of_block hx2)).trans hx2
  have ky4 : ∀ y : InC (fun W' => Up W9 W'), y.w.heap[b4]? = some (.cells D3 28 (0, 0)) := fun y => (y.h.block b4 (lt_of_block hx4)).trans hx4
  have KY2 := Lib.hid ky2
  have KY4 := Lib.hid ky4
  have a1 : ∀ y : InC (fun W' => Up W9 W'), y.w.cell? ⟨b2, 32, none⟩ = some (.int .i64 5) := fun y => (cell_of_row y.w b2 32 _ _ _ (ky2 y)).trans D1a.out
  have a2 : ∀ y : InC (fun W' => Up W9 W'), y.w.cell? ⟨b2, 33, none⟩ = some (.int .i64 2) := fun y => (cell_of_row y.w b2 33 _ _ _ (ky2 y)).trans D1b.out
  have a3 : ∀ y : InC (fun W' => Up W9 W'), y.w.cell? ⟨b2, 34, none⟩ = some (.int .i64 0) := fun y => (cell_of_row y.w b2 34 _ _ _ (ky2 y)).trans D1c'.out
  have a4 : ∀ y : InC (fun W' => Up W9 W'), y.w.cell? ⟨b4, 32, none⟩ = some (.int .i64 12) := fun y => (cell_of_row y.w b4 32 _ _ _ (ky4 y)).trans D3a.out
  have a5 : ∀ y : InC (fun W' => Up W9 W'), y.w.cell? ⟨b4, 33, none⟩ = some (.int .i64 1099511627778) := fun y => (cell_of_row y.w b4 33 _ _ _ (ky4 y)).trans D3b.out
  have a6 : ∀ y : InC (fun W' => Up W9 W'), y.w.cell? ⟨b4, 34, none⟩ = some (.int .i64 3) := fun y => (cell_of_row y.w b4 34 _ _ _ (ky4 y)).trans D3c'.out
  have HA := Lib.hid (And.intro a1 (And.intro a2 (And.intro a3 (And.intro a4 (And.intro a5 a6)))))
  have PA : Hid (∀ y : InC (fun W' => Up W9 W'), y.w.rangeAt b2 0 H.toList) := fun y => by have := rangeAt_part (ky2 y) 0 H (fun j hj => by rw [Nat.zero_add]; exact D1h.out j (by rw [Hs.out] at hj; exact hj)); exact this
  clear hx2 hx4 ky2 ky4 a1 a2 a3 a4 a5 a6 u9 hW9
  simp only [pick, List.getElem?_cons_zero, List.getElem?_cons_succ]
  repeat (first | (refine wpStillC_load_arr (by rfl) 26 (.tmp 92) rfl b2 0 rfl H _ (fun w' hw' => by (obtain ⟨z, rfl⟩ := hw'; exact PA.out z)) rfl rfl (by rw [Hs.out]; rfl) ?_) | (refine wpStillC_load_arr (by rfl) 38 (.tmp 95) rfl bf 0 rfl X0 _ (fun w' hw' => by (obtain ⟨z, rfl⟩ := hw'; exact rangeAt_up G0.out (Up.trans V9.out z.h))) rfl rfl (by rw [X0s.out]; rfl) ?_) | (refine wpStillC_step (fun K hK => ?_); go_simp; refine hK _ ?_; clear hK K))
  refine wpStillC_nil ?_
  refine wpChainT_step (fun K hK => ?_)
  go_simp
  refine (LT.out W9).mono ?_
  rintro e w10 ⟨pl, cl, rfl, hl1, hl2, hl3, u10⟩
  refine hK _ _ (inC u10) ?_
  clear hK K
  refine wpChainT_step (fun K hK => ?_)
  go_simp
  refine (SM.out w10 pl cl hl1 hl2 hl3 (HT.out.up (Up.trans U1.out (Up.trans V9.out u10)))).mono ?_
  rintro e w11 ⟨rfl, u11⟩
  have UB : Up W9 w11 := Up.trans u10 u11
  refine hK _ _ (inC UB) ?_
  have V11 := Lib.hid (Up.trans V9.out UB)
  have U911 := Lib.hid UB
  clear hK K u10 u11 hl1 hl2 hl3
  refine wpChainT_nil ⟨inC UB, ?_⟩
  clear UB
  obtain ⟨a1, a2, a3, a4, a5, a6⟩ := HA.out
  repeat (first | ((with_reducible show wpStillC _ _ _ _ (Oper.mk _ (Op.load _ (Operand.tmp 132)) _ _ _ _ :: _) _); refine wpStillC_load_arr (by rfl) 28 (.tmp 132) rfl bp op rfl D1 _ (fun w' hw' => by (obtain ⟨z, rfl⟩ := hw'; exact rangeAt_up HP0.out (Up.trans U9.out z.h))) rfl rfl (by rw [D1s.out]; rfl) ?_) | ((with_reducible show wpStillC _ _ _ _ (Oper.mk _ (Op.load _ (Operand.tmp 2)) _ _ _ _ :: _) _); refine wpStillC_load_arr (by rfl) 28 (.tmp 2) rfl b2 0 rfl D1 _ (fun w' hw' => by (obtain ⟨z, rfl⟩ := hw'; exact rangeAt_row (KY2.out z))) rfl rfl (by rw [D1s.out]; rfl) ?_) | (refine wpStillC_step (fun K hK => ?_); go_simp; refine hK _ ?_; clear hK K))
  refine wpStillC_nil ?_
  clear a1 a2 a3 a4 a5 a6 HA PA KY2 KY4 EQ1 EQD SM LT CL R1 R3 R0 PV1 PV2 PV3
  have U811 : Hid (Up W8 w11) := Up.trans U9.out U911.out
  have PP1d := Lib.hid (PP1c.out.up U811.out)
  have PP2d := Lib.hid (PP2c.out.up U811.out)
  have X4b := Lib.hid ((U811.out.block _ (lt_of_block X4a.out)).trans X4a.out)
  have X1b : Hid (X1[1]? = some (.int .i64 7)) := by show _ = _; rw [HX1.out]; rfl
  clear PP1c PP2c X4a X2a U38 HP0 U9 U911 V9 V8 U811
  go_wp2_with (first | ((with_reducible show wpList _ _ _ (Oper.mk _ (Op.load _ (Operand.tmp 138)) _ _ _ _ :: _) _ _); refine wpList_load_arr rfl 38 (.tmp 138) rfl bf 5 rfl X1 _ (rangeAt_up G1.out V11.out) rfl rfl (by rw [X1s.out]; rfl) ?_) | (refine wpList_allocG rfl 38 5 allocsShare rfl ?_; intro A9 au az ahz; obtain ⟨Z9, hZz, hbz⟩ := ahz; have AU9 := Lib.hid au; have HZ9 := Lib.hid hZz; have HB9 := Lib.hid hbz; clear au az hZz hbz) | ((with_reducible show wpList _ _ _ (Oper.mk _ (Op.store _ (Operand.tmp 16) _) _ _ _ _ :: _) _ _); refine wpList_store_row rfl 38 (.tmp 16) (.tmp 139) rfl _ X1 rfl rfl 38 _ HB9.out (by rw [X1s.out]; rfl) (by rw [HZ9.out, X1s.out]) X1c.out ?_; refine wpList_named ?_; intro W12 hWn; (have un := setRow_upN hWn AU9.out (Nat.le_refl _)); (have pn := setRow_named hWn HB9.out); have P12 := Lib.hid pn; have UN12 := Lib.hid un; (have q12 := (cell_of_row W12 _ 1 _ _ _ pn).trans X1b.out); (have f12 := free_row pn 1); clear un pn hWn))
  clear q12 f12
  refine wp_named ?_
  intro W13 hW13
  have p13 : W13.heap[w11.heap.size]? = some (.cells (shCells fx1') 38 (0, 0)) := by
    rw [hW13, heap_setCell_same W12 w11.heap.size 1 _ _ _ P12.out, HX1.out]; rfl
  have U13 : Hid (Up w11 W13) := by show Up _ _; rw [hW13]; exact Below.setCell UN12.out (Nat.le_refl _) _
  obtain ⟨b16, hb16⟩ : ∃ b, b = w11.heap.size := ⟨_, rfl⟩
  rw [← hb16] at p13 ⊢
  obtain ⟨X1', hX1'⟩ : ∃ X, X = shCells fx1' := ⟨_, rfl⟩
  have HX1' := Lib.hid hX1'
  have X1's : Hid (X1'.size = 5) := by show _ = _; rw [hX1']; rfl
  rw [← hX1'] at p13
  have CK1 := Lib.hid fun W (hu : Up W13 W) => pfCheck_calls fAll 3 1 fx1 (some ⟨bp, op, none⟩) 2 c1 fP1 W fAll_hash rfl fP1_hash (PP1d.out.up (Up.trans U13.out hu)) Q1.out.1 Q1.out.2 (HT.out.up (Up.trans U1.out (Up.trans V11.out (Up.trans U13.out hu))))
  rw [check1, ← HD3.out, ← HX1.out] at CK1
  have CK2 := Lib.hid fun W (hu : Up W13 W) => pfCheck_calls fAll 3 2 fx2 p2 1 c2 fP2 W fAll_hash rfl fP2_hash (PP2d.out.up (Up.trans U13.out hu)) Q2.out.1 Q2.out.2 (HT.out.up (Up.trans U1.out (Up.trans V11.out (Up.trans U13.out hu))))
  rw [check2, ← HD3.out, ← HX2.out] at CK2
  have CK3 := Lib.hid fun W (hu : Up W13 W) => pfCheck_calls fAll 3 0 fx1 (some ⟨bp, op, none⟩) 2 c1 fP1 W fAll_hash rfl fP1_hash (PP1d.out.up (Up.trans U13.out hu)) Q1.out.1 Q1.out.2 (HT.out.up (Up.trans U1.out (Up.trans V11.out (Up.trans U13.out hu))))
  rw [check3, ← HD3.out, ← HX1.out] at CK3
  have CK4 := Lib.hid fun W (hu : Up W13 W) => pfCheck_calls fAll 3 1 fx1' (some ⟨bp, op, none⟩) 2 c1 fP1 W fAll_hash rfl fP1_hash (PP1d.out.up (Up.trans U13.out hu)) Q1.out.1 Q1.out.2 (HT.out.up (Up.trans U1.out (Up.trans V11.out (Up.trans U13.out hu))))
  rw [check4, ← HD3.out, ← HX1'.out] at CK4
  have P13 := Lib.hid p13
  have X4c := Lib.hid ((U13.out.block _ (lt_of_block X4b.out)).trans X4b.out)
  have G1c := Lib.hid (rangeAt_up (rangeAt_up G1.out V11.out) U13.out)
  have G2c := Lib.hid (rangeAt_up (rangeAt_up G2.out V11.out) U13.out)
  have UF : Hid (Up w W13) := Up.trans U1.out (Up.trans V11.out U13.out)
  have hz := Lib.hid fun (z : UpW W13.drew) => (Up.trans (Up.refl W13).drew z.up : Up W13 z.w)
  haveI := UpW.some_ W13.drew
  clear hb16 hX1' p13 hW13 PP1d PP2d X4b P12 UN12 AU9 HB9 HZ9 U13 HX1 HX2 HX1'
  refine wp_region_up_k (by kernel_rfl) (by kernel_rfl) ?_
  intro R HRR
  have HRR' := Lib.hid HRR
  clear HRR
  refine wpQuiet_load_arr (by rfl) 28 (.tmp 4) rfl b4 0 rfl D3 _ (fun w' hw' => by (obtain ⟨z, rfl⟩ := hw'; exact rangeAt_up (rangeAt_row X4c.out) (hz.out z))) rfl rfl (by rw [D3s.out]; rfl) ?_
  repeat (first | ((with_reducible show wpQuiet _ _ _ _ (Oper.mk _ (Op.load _ (Operand.tmp 4)) _ _ _ _ :: _) _); refine wpQuiet_load_arr (by rfl) 28 (.tmp 4) rfl b4 0 rfl D3 _ (fun w' hw' => by (obtain ⟨z, rfl⟩ := hw'; exact rangeAt_up (rangeAt_row X4c.out) (hz.out z))) rfl rfl (by rw [D3s.out]; rfl) ?_) | ((with_reducible show wpQuiet _ _ _ _ (Oper.mk _ (Op.load _ (Operand.tmp 143)) _ _ _ _ :: _) _); refine wpQuiet_load_arr (by rfl) 38 (.tmp 143) rfl bf 5 rfl X1 _ (fun w' hw' => by (obtain ⟨z, rfl⟩ := hw'; exact rangeAt_up G1c.out (hz.out z))) rfl rfl (by rw [X1s.out]; rfl) ?_) | ((with_reducible show wpQuiet _ _ _ _ (Oper.mk _ (Op.load _ (Operand.tmp 150)) _ _ _ _ :: _) _); refine wpQuiet_load_arr (by rfl) 38 (.tmp 150) rfl bf 10 rfl X2 _ (fun w' hw' => by (obtain ⟨z, rfl⟩ := hw'; exact rangeAt_up G2c.out (hz.out z))) rfl rfl (by rw [X2s.out]; rfl) ?_) | ((with_reducible show wpQuiet _ _ _ _ (Oper.mk _ (Op.load _ (Operand.tmp 158)) _ _ _ _ :: _) _); refine wpQuiet_load_arr (by rfl) 38 (.tmp 158) rfl bf 5 rfl X1 _ (fun w' hw' => by (obtain ⟨z, rfl⟩ := hw'; exact rangeAt_up G1c.out (hz.out z))) rfl rfl (by rw [X1s.out]; rfl) ?_) | ((with_reducible show wpQuiet _ _ _ _ (Oper.mk _ (Op.load _ (Operand.tmp 16)) _ _ _ _ :: _) _); refine wpQuiet_load_arr (by rfl) 38 (.tmp 16) rfl b16 0 rfl X1' _ (fun w' hw' => by (obtain ⟨z, rfl⟩ := hw'; exact rangeAt_up (rangeAt_row P13.out) (hz.out z))) rfl rfl (by rw [X1's.out]; rfl) ?_) | quiet_step ((go_at_call 15; first | (with_reducible exact Calls.quiet_up (CK1.out _ (hz.out _))) | (with_reducible exact Calls.quiet_up (CK2.out _ (hz.out _))) | (with_reducible exact Calls.quiet_up (CK3.out _ (hz.out _))) | (with_reducible exact Calls.quiet_up (CK4.out _ (hz.out _))))))
  refine wpQuiet_nil ?_
  refine HRR'.out _ ?_
  rintro w14 ⟨z, hz14⟩
  have UE : Hid (Up w w14) := by show Up _ _; rw [hz14]; exact Up.trans UF.out (hz.out z)
  clear hz14 HRR' hz
  go_wp2
  go_ret
  exact ⟨rfl, UE.out⟩

end Go.Proofs.YtobcfhninchnkaaDoor
