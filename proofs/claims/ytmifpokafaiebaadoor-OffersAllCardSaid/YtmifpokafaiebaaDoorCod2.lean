/- THE WALKS OF PACKAGE codec, 2: what the writer's function for integers does, and that for texts. -/
import Derived.Test.YtmifpokafaiebaaDoorCod1
namespace Go.Proofs.YtmifpokafaiebaaDoor
open Go.RowKit
set_option linter.unusedVariables false
set_option maxRecDepth 100000

/-- a value as four cells -/
def vCells (k n : Int) (s : ByteArray) (sl : Value) : Array Value := #[.int .i64 k, .int .i64 n, .string s, sl]

theorem Own.lt {w : World} {base : Nat} {v : Value} {l : List UInt8} (h : Own w base v l) : ∀ k, v.ownBlock = some k → k < w.heap.size := fun g hg => (World.ownsRow.lt h g hg).2

set_option maxRecDepth 100000 in
set_option maxHeartbeats 1000000 in
theorem writeInt_calls (base : Nat) (n : Int) (s : ByteArray) (sl : Value) (v : Value) (l : List UInt8) (w : World) (h1 : -9223372036854775808 ≤ n) (h2 : n ≤ 9223372036854775807) (ho : Own w base v l) (hl : l.length ≤ 1073741824) (hb : base ≤ w.heap.size) :
    Calls Tryd.prog 58 #[v, .agg (vCells 1 n s sl)] w fun e w' => ∃ v', e = .returned v' ∧ Own w' base v' (l ++ Enc.encI n) ∧ Below base w w' ∧ Grow w w' v v' := by
  have O := Lib.hid ho
  clear ho
  go_enter Tryd.func58, Tryd.ntmps58
  go_wp2_with fail
  obtain ⟨bx, hbx⟩ : ∃ bx, bx = w.heap.size := ⟨_, rfl⟩
  rw [← hbx]
  refine wp_region_mix_at [0, 3, 4] [1, 2, 5, 6, 7] (by kernel_rfl) (by kernel_rfl) (fun _ _ d _ _ h => by cases d <;> exact h) ?_
  intro W u1 hWh
  refine ⟨fun W' => W.grownBy W' v.ownBlock, ⟨rfl, rfl, rfl, Nat.le_refl _, fun _ _ _ => rfl⟩, ?_⟩
  have hx : W.heap[bx]? = some (.cells (vCells 1 n s sl) 64 (0, 0)) := by rw [hWh]; exact heap_new hbx
  have hxv : v.ownBlock ≠ some bx := fun e => by have := O.out.lt bx e; omega
  have K1 : ∀ x : InC (fun W' => W.grownBy W' v.ownBlock), x.w.cell? ⟨bx, 1, none⟩ = some (.int .i64 n) := fun x => by
    rw [cell_of_row x.w bx 1 _ _ _ ((x.h.block bx (lt_of_block hx) (fun e => hxv e.symm)).trans hx)]; rfl
  have U1 : Hid (Up w W) := Up.trans ((Up.refl w).alloc _) u1
  have hbW : base ≤ W.heap.size := Nat.le_trans hb U1.out.size
  have O1 : Hid (Own W base v l) := O.out.up U1.out
  have UN := Lib.hid fun w => unsigned_calls n w h1 h2
  have hzz := Enc.zz_lt h1 h2
  have HBX := Lib.hid hbx
  clear u1 hx hbx hWh
  haveI : Nonempty (InC (fun W' => W.grownBy W' v.ownBlock)) := ⟨⟨W, ⟨rfl, rfl, rfl, Nat.le_refl _, fun _ _ _ => rfl⟩⟩⟩
  simp only [pick, List.getElem?_cons_zero, List.getElem?_cons_succ]
  repeat (refine wpStillC_step (fun K hK => ?_); go_simp; refine hK _ ?_; clear hK K)
  refine wpStillC_nil ?_
  refine wpChain_step (fun K hK => ?_)
  go_simp
  refine hK _ _ (inC (World.grownBy_alloc W _ _)) ?_
  clear hK K
  refine wpChain_want rfl (fun K hK => ?_)
  refine wp_app1 (.tmp 5) (.tmp 6) rfl rfl base _ _ _ 1 rfl rfl rfl (by omega) O1.out (by omega) hbW ?_
  intro v2 W2 o2 b2 g2
  have O2 := Lib.hid o2
  have B2 := Lib.hid b2
  have G2 := Lib.hid g2
  refine hK _ _ (inC g2.grown) ?_
  clear hK K o2 b2 g2
  refine wpChain_step (fun K hK => ?_)
  go_simp
  refine (UN.out _).mono ?_
  rintro e w3 ⟨rfl, rfl⟩
  refine hK _ _ (inC G2.out.grown) ?_
  clear hK K
  refine wpChain_step (fun K hK => ?_)
  go_simp
  refine (numeral_calls base (Enc.zz n) v2 (l ++ [UInt8.ofNat 1]) W2 hzz O2.out (by simp; omega) (Nat.le_trans hbW B2.out.size)).mono ?_
  rintro e w3 ⟨v3, rfl, o3, b3, g3⟩
  have G3 : Hid (Grow W w3 v v3) := Grow.trans G2.out g3
  have B3 : Hid (Below base W w3) := Below.trans B2.out b3
  have O3 := Lib.hid o3
  refine hK _ _ (inC G3.out.grown) ?_
  clear hK K o3 b3 g3
  refine wpChain_step (fun K hK => ?_)
  go_simp
  refine hK _ _ (inC G3.out.grown) ?_
  clear hK K
  refine wpChain_nil ?_
  go_wp2
  go_ret
  refine ⟨_, rfl, ?_, Below.trans (U1.out.below.mono hb) B3.out, G3.out.up U1.out⟩
  have := O3.out
  rwa [List.append_assoc] at this

set_option maxRecDepth 100000 in
set_option maxHeartbeats 1000000 in
theorem writeText_calls (base : Nat) (n : Int) (s : ByteArray) (sl : Value) (v : Value) (l : List UInt8) (w : World) (hs : s.size ≤ 1073741824) (ho : Own w base v l) (hl : l.length ≤ 1073741824) (hb : base ≤ w.heap.size) :
    Calls Tryd.prog 61 #[v, .agg (vCells 2 n s sl)] w fun e w' => ∃ v', e = .returned v' ∧ Own w' base v' (l ++ Enc.encT s.data.toList) ∧ Below base w w' ∧ Grow w w' v v' := by
  have O := Lib.hid ho
  have HSL : Hid (s.data.toList.length = s.size) := by show _ = _; rw [Array.length_toList]; rfl
  clear ho
  go_enter Tryd.func61, Tryd.ntmps61
  go_wp2_with fail
  obtain ⟨bx, hbx⟩ : ∃ bx, bx = w.heap.size := ⟨_, rfl⟩
  rw [← hbx]
  refine wp_region_mix_at [0, 3, 4, 5, 6, 8, 9] [1, 2, 7, 10, 11] (by kernel_rfl) (by kernel_rfl) (fun _ _ d _ _ h => by cases d <;> exact h) ?_
  intro W u1 hWh
  refine ⟨fun W' => W.grownBy W' v.ownBlock, ⟨rfl, rfl, rfl, Nat.le_refl _, fun _ _ _ => rfl⟩, ?_⟩
  have hx : W.heap[bx]? = some (.cells (vCells 2 n s sl) 64 (0, 0)) := by rw [hWh]; exact heap_new hbx
  have hxv : v.ownBlock ≠ some bx := fun e => by have := O.out.lt bx e; omega
  have K1 : ∀ x : InC (fun W' => W.grownBy W' v.ownBlock), x.w.cell? ⟨bx, 2, none⟩ = some (.string s) := fun x => by
    rw [cell_of_row x.w bx 2 _ _ _ ((x.h.block bx (lt_of_block hx) (fun e => hxv e.symm)).trans hx)]; rfl
  have U1 : Hid (Up w W) := Up.trans ((Up.refl w).alloc _) u1
  have hbW : base ≤ W.heap.size := Nat.le_trans hb U1.out.size
  have O1 : Hid (Own W base v l) := O.out.up U1.out
  have HBX := Lib.hid hbx
  clear u1 hx hbx hWh
  haveI : Nonempty (InC (fun W' => W.grownBy W' v.ownBlock)) := ⟨⟨W, ⟨rfl, rfl, rfl, Nat.le_refl _, fun _ _ _ => rfl⟩⟩⟩
  simp only [pick, List.getElem?_cons_zero, List.getElem?_cons_succ]
  have e1 : IntKind.u64.wrap (s.size : Int) = (s.size : Int) := by rw [IntKind.wrap_u64]; omega
  repeat (refine wpStillC_step (fun K hK => ?_); go_simp; refine hK _ ?_; clear hK K)
  refine wpStillC_nil ?_
  refine wpChain_step (fun K hK => ?_)
  go_simp
  refine hK _ _ (inC (World.grownBy_alloc W _ _)) ?_
  clear hK K
  refine wpChain_want rfl (fun K hK => ?_)
  refine wp_app1 (.tmp 5) (.tmp 6) rfl rfl base _ _ _ 2 rfl rfl rfl (by omega) O1.out (by omega) hbW ?_
  intro v2 W2 o2 b2 g2
  have O2 := Lib.hid o2
  have B2 := Lib.hid b2
  have G2 := Lib.hid g2
  refine hK _ _ (inC g2.grown) ?_
  clear hK K o2 b2 g2
  refine wpChain_step (fun K hK => ?_)
  go_simp
  refine (numeral_calls base s.size v2 (l ++ [UInt8.ofNat 2]) W2 (by omega) O2.out (by simp; omega) (Nat.le_trans hbW B2.out.size)).mono ?_
  rintro e w3 ⟨v3, rfl, o3, b3, g3⟩
  have G3 : Hid (Grow W w3 v v3) := Grow.trans G2.out g3
  have B3 : Hid (Below base W w3) := Below.trans B2.out b3
  have O3 := Lib.hid o3
  have hlen : ((l ++ [UInt8.ofNat 2]) ++ Enc.num s.size).length + s.size ≤ 4294967296 := by have := Enc.num_length s.size; simp; omega
  refine hK _ _ (inC G3.out.grown) ?_
  clear hK K o3 b3 g3
  refine wpChain_want rfl (fun K hK => ?_)
  refine wp_appS (.tmp 12) (.tmp 14) rfl rfl base _ _ s rfl rfl O3.out hlen (Nat.le_trans hbW B3.out.size) ?_
  intro v4 w4 o4 b4 g4
  have G4 : Hid (Grow W w4 v v4) := Grow.trans G3.out g4
  have B4 : Hid (Below base W w4) := Below.trans B3.out b4
  have O4 := Lib.hid o4
  refine hK _ _ (inC G4.out.grown) ?_
  clear hK K o4 b4 g4 hlen
  refine wpChain_step (fun K hK => ?_)
  go_simp
  refine hK _ _ (inC G4.out.grown) ?_
  clear hK K
  refine wpChain_nil ?_
  go_wp2
  go_ret
  refine ⟨_, rfl, ?_, Below.trans (U1.out.below.mono hb) B4.out, G4.out.up U1.out⟩
  have := O4.out
  rw [← HSL.out, List.append_assoc, List.append_assoc] at this
  exact this

end Go.Proofs.YtmifpokafaiebaaDoor
