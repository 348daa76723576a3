/- THE REFERENCE CODEC acequiaref01: encode of an integer and of a text. -/
import Derived.Test.YtmifpokafaiebaaDoorRC1
import Derived.Test.YtmifpokafaiebaaDoorVal
import Derived.Test.YtmifpokafaiebaaDoorMix2
namespace Go.Proofs.YtmifpokafaiebaaDoor
open Go.RowKit
set_option linter.unusedVariables false
set_option maxRecDepth 100000

theorem wpChain_nm {P : Program} {ops : Array Oper} {C : World → Prop} {Q : Exit → Act → World → Prop} {l : List Oper} {a : Act} {w0 : World} (h : ∀ W, W = w0 → wpChain P ops C Q l a W) : wpChain P ops C Q l a w0 := h _ rfl
theorem alloc_size (w : World) (o : Obj) : (w.alloc o).heap.size = w.heap.size + 1 := by show (w.heap.push o).size = _; rw [Array.size_push]

set_option maxRecDepth 100000 in
set_option maxHeartbeats 1000000 in
theorem rc_encI (n : Int) (s : ByteArray) (l : Value) (w : World) (h1 : -9223372036854775808 ≤ n) (h2 : n ≤ 9223372036854775807) :
    Calls Tryd.prog 50 #[.agg (vCells 1 n s l)] w fun e w' => ∃ v', e = .returned v' ∧ Own w' w.heap.size v' (Enc.encI n) ∧ Up w w' := by
  have UN := Lib.hid fun w => rc_unsigned n w h1 h2
  have hz := Enc.zz_lt h1 h2
  obtain ⟨z, hzz⟩ : ∃ z, z = Enc.zz n := ⟨_, rfl⟩
  have NU := Lib.hid fun w => rc_numeral (Enc.zz n) w hz
  unfold Enc.encI
  rw [← hzz] at UN NU hz
  rw [← hzz]
  clear hzz
  unfold vCells
  go_enter Tryd.func50, Tryd.ntmps50
  go_wp2_with fail
  refine calls_nm ?_
  intro W hW
  obtain ⟨b, hb⟩ : ∃ b, b = w.heap.size + 1 := ⟨_, rfl⟩
  have hlit : Own W b (.slice (some ⟨b, 0, none⟩) 1 1) [1] := by
    have h := own_lit (w := w.alloc (Obj.cells #[Value.int IntKind.i64 1, Value.int IntKind.i64 n, Value.string s, l] 64)) (n := 1) (z := 1) rfl (by omega) hW
    rw [alloc_size] at h
    rw [hb]; exact h
  have U1 : Hid (Up w W) := by show Up w W; rw [hW]; exact ((Up.refl w).alloc _).alloc _
  have HSZ : Hid (b < W.heap.size) := by show b < _; rw [hW, hb, alloc_size, alloc_size]; omega
  have HL := Lib.hid hlit
  have HB : Hid (w.heap.size ≤ b) := by show _ ≤ b; omega
  rw [← hb]
  clear hW hlit hb
  refine (UN.out W).mono ?_
  rintro e w1 ⟨rfl, rfl⟩
  go_wp2_with fail
  refine (NU.out W).mono ?_
  rintro e w2 ⟨v2, rfl, ho2, u2⟩
  obtain ⟨p2, c2, rfl, g1, g2, g3⟩ := ho2.form
  have HL2 := Lib.hid (HL.out.up u2)
  have U2 : Hid (Up w w2) := Up.trans U1.out u2
  have hlen := Enc.num_length z
  have G3 := Lib.hid g3
  have HSZ2 : Hid (b ≤ w2.heap.size) := by have := HSZ.out; have := u2.size; show b ≤ _; omega
  obtain ⟨m2, hm2⟩ : ∃ m, m = (Enc.num z).length := ⟨_, rfl⟩
  rw [← hm2] at g1 hlen
  rw [← hm2]
  have HM := Lib.hid hm2
  clear u2 ho2 g3 hm2
  go_wp2_with (at_builtin; refine wpList_app rfl (.tmp 9) (.tmp 13) rfl rfl b _ _ _ _ _ (Enc.num z) rfl rfl HM.out HL2.out G3.out (by rw [← HM.out]; simp; omega) HSZ2.out ?_; intro v3 w3 ho3 hb3; have O3 := Lib.hid ho3; have B3 : Hid (Below b w2 w3) := hb3; clear ho3 hb3)
  go_ret
  exact ⟨_, rfl, O3.out.less HB.out, Below.trans U2.out (B3.out.mono HB.out)⟩

set_option maxRecDepth 100000 in
set_option maxHeartbeats 1000000 in
theorem rc_encT (n : Int) (s : ByteArray) (l : Value) (w : World) (hs : s.size ≤ 1073741824) :
    Calls Tryd.prog 50 #[.agg (vCells 2 n s l)] w fun e w' => ∃ v', e = .returned v' ∧ Own w' w.heap.size v' (Enc.encT s.data.toList) ∧ Up w w' := by
  have hz : s.size < 18446744073709551616 := by omega
  have NU := Lib.hid fun w => rc_numeral s.size w hz
  have hl : s.data.toList.length = s.size := by rw [Array.length_toList]; rfl
  unfold Enc.encT
  rw [hl]
  have hd2 : ((s.size : Int) % 18446744073709551616) = s.size := by omega
  have hd3 : IntKind.u64.wrap (s.size : Int) = s.size := by rw [IntKind.wrap_u64]; exact hd2
  clear hl
  unfold vCells
  go_enter Tryd.func50, Tryd.ntmps50
  go_wp2_with fail
  refine wp_region_fork_at [1, 2, 3, 4, 7, 8] [0, 5, 6, 9, 10] [5, 0, 6, 9, 10] (by kernel_rfl) (by kernel_rfl) (fun _ _ d _ _ h => by cases d <;> exact h) ?_
  intro W u hW
  obtain ⟨bt, hbt⟩ : ∃ b, b = w.heap.size := ⟨_, rfl⟩
  rw [← hbt]
  have hx : W.heap[bt]? = some (.cells #[.int .i64 2, .int .i64 n, .string s, l] 64 (0, 0)) := by rw [hW, heap_new hbt]
  have U : Hid (Up w W) := Up.trans ((Up.refl w).alloc _) u
  have HSZ : Hid (w.heap.size ≤ W.heap.size) := U.out.size
  refine ⟨fun W' => Up W W', Up.refl _, ?_⟩
  have K0 : ∀ x : InC (fun W' => Up W W'), x.w.cell? ⟨bt, 2, none⟩ = some (.string s) := fun x => by rw [cell_of_row x.w bt 2 _ _ _ ((x.h.block bt (lt_of_block hx)).trans hx)]; rfl
  haveI : Nonempty (InC (fun W' => Up W W')) := ⟨⟨W, Up.refl _⟩⟩
  clear u hW hx hbt
  have hlen := Enc.num_length s.size
  simp only [pick, List.getElem?_cons_zero, List.getElem?_cons_succ]
  repeat (refine wpStillC_step (fun K hK => ?_); go_simp; refine hK _ ?_; clear hK K)
  refine wpStillC_nil ⟨?_, ?_⟩
  · clear K0
    refine wpChain_step (fun K hK => ?_)
    go_simp
    refine hK _ _ (inC ((Up.refl W).alloc _)) ?_
    clear hK K
    refine wpChain_nm ?_
    intro W1 hW1
    obtain ⟨b, hb⟩ : ∃ b, b = W.heap.size := ⟨_, rfl⟩
    rw [← hb]
    have hlit : Own W1 b (.slice (some ⟨b, 0, none⟩) 1 1) [2] := by
      have h := own_lit (n := 2) (z := 2) rfl (by omega) hW1
      rw [hb]; exact h
    have u1 : Up W W1 := by rw [hW1]; exact (Up.refl W).alloc _
    have hbs : b ≤ W1.heap.size := by rw [hb]; exact u1.size
    have HB := Lib.hid hb
    clear hW1 hb
    refine wpChain_step (fun K hK => ?_)
    go_simp
    refine (NU.out W1).mono ?_
    rintro e w2 ⟨v2, rfl, ho2, u2⟩
    obtain ⟨p2, c2, rfl, g1, g2, g3⟩ := ho2.form
    refine hK _ _ (inC (Up.trans u1 u2)) ?_
    clear hK K
    refine wpChain_want rfl (fun K hK => ?_)
    refine wp_app (.tmp 17) (.tmp 22) rfl rfl b _ _ _ _ _ (Enc.num s.size) rfl rfl rfl (hlit.up u2) g3 (by simp; omega) (Nat.le_trans hbs u2.size) ?_
    intro v3 w3 ho3 hb3 _
    have u3 : Up W w3 := Below.trans (Up.trans u1 u2) (by rw [← HB.out]; exact hb3)
    refine hK _ _ (inC u3) ?_
    clear hK K
    refine wpChain_want rfl (fun K hK => ?_)
    refine wp_appS (.tmp 23) (.tmp 25) rfl rfl b _ _ s rfl rfl ho3 (by simp; omega) (Nat.le_trans (Nat.le_trans hbs u2.size) hb3.size) ?_
    intro v4 w4 ho4 hb4 _
    have u4 : Up W w4 := Below.trans u3 (by rw [← HB.out]; exact hb4)
    refine hK _ _ (inC u4) ?_
    clear hK K
    refine wpChain_step (fun K hK => ?_)
    go_simp
    refine hK _ _ (inC u4) ?_
    clear hK K
    refine wpChain_nil ?_
    have O4 : Hid (Own w4 w.heap.size v4 (2 :: (Enc.num s.size ++ s.data.toList))) := by
      have := ho4.less (base' := w.heap.size) (by rw [HB.out]; exact HSZ.out)
      show Own _ _ _ _
      simpa using this
    have U4 : Hid (Up w w4) := Up.trans U.out u4
    clear ho4 hb4 ho3 hb3 u3 u4 u2 ho2 g1 g2 g3 hlit
    go_wp2
    go_ret
    exact ⟨_, rfl, O4.out, U4.out⟩
  · clear K0
    refine wpChain_step (fun K hK => ?_)
    go_simp
    refine (NU.out W).mono ?_
    rintro e w2 ⟨v2, rfl, ho2, u2⟩
    obtain ⟨p2, c2, rfl, g1, g2, g3⟩ := ho2.form
    refine hK _ _ (inC u2) ?_
    clear hK K
    refine wpChain_step (fun K hK => ?_)
    go_simp
    refine hK _ _ (inC (u2.alloc _)) ?_
    clear hK K
    refine wpChain_nm ?_
    intro W1 hW1
    obtain ⟨b, hb⟩ : ∃ b, b = w2.heap.size := ⟨_, rfl⟩
    rw [← hb]
    have hlit : Own W1 b (.slice (some ⟨b, 0, none⟩) 1 1) [2] := by
      have h := own_lit (n := 2) (z := 2) rfl (by omega) hW1
      rw [hb]; exact h
    have u1 : Up w2 W1 := by rw [hW1]; exact (Up.refl w2).alloc _
    have hbs : b ≤ W1.heap.size := by rw [hb]; exact u1.size
    have hbW : W.heap.size ≤ b := by rw [hb]; exact u2.size
    clear hW1 hb
    refine wpChain_want rfl (fun K hK => ?_)
    refine wp_app (.tmp 17) (.tmp 22) rfl rfl b _ _ _ _ _ (Enc.num s.size) rfl rfl rfl hlit (g3.up u1) (by simp; omega) hbs ?_
    intro v3 w3 ho3 hb3 _
    have u3 : Up W w3 := Below.trans (Up.trans u2 u1) (hb3.mono hbW)
    refine hK _ _ (inC u3) ?_
    clear hK K
    refine wpChain_want rfl (fun K hK => ?_)
    refine wp_appS (.tmp 23) (.tmp 25) rfl rfl b _ _ s rfl rfl ho3 (by simp; omega) (Nat.le_trans hbs hb3.size) ?_
    intro v4 w4 ho4 hb4 _
    have u4 : Up W w4 := Below.trans u3 (hb4.mono hbW)
    refine hK _ _ (inC u4) ?_
    clear hK K
    refine wpChain_step (fun K hK => ?_)
    go_simp
    refine hK _ _ (inC u4) ?_
    clear hK K
    refine wpChain_nil ?_
    have O4 : Hid (Own w4 w.heap.size v4 (2 :: (Enc.num s.size ++ s.data.toList))) := by
      have := ho4.less (base' := w.heap.size) (Nat.le_trans HSZ.out hbW)
      show Own _ _ _ _
      simpa using this
    have U4 : Hid (Up w w4) := Up.trans U.out u4
    clear ho4 hb4 ho3 hb3 u3 u4 u2 ho2 g1 g2 g3 hlit
    go_wp2
    go_ret
    exact ⟨_, rfl, O4.out, U4.out⟩

end Go.Proofs.YtmifpokafaiebaaDoor
