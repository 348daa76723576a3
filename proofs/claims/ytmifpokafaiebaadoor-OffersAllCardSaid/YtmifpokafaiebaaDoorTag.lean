/- THE WALK OF digest.Tagged. -/
import Derived.Test.YtmifpokafaiebaaDoorCat
namespace Go.Proofs.YtmifpokafaiebaaDoor
open Go.RowKit
set_option linter.unusedVariables false

set_option maxRecDepth 100000 in
set_option maxHeartbeats 1000000 in
theorem tagged_calls (s : ByteArray) (p : Option Addr) (cap : Nat) (l : List UInt8) (w : World) (hs : s.size ≤ 200) (hl : l.length ≤ 2000) (hcap : l.length ≤ cap) (hm : cap ≤ maxLen) (hb : SB w p l) (ht0 : Tab0 w) (ht1 : Tab w) :
    Calls Tryd.prog 24 #[.string s, .slice p l.length cap] w fun e w' => e = .returned (.agg (u8s (Sha.tagged s.data.toList l)).toArray) ∧ Up w w' := by
  unfold maxLen at hm
  have HB := Lib.hid hb
  have HT0 := Lib.hid ht0
  have HT1 := Lib.hid ht1
  clear hb ht0 ht1
  obtain ⟨W1, hW1⟩ : ∃ W1, W1 = w.alloc (Obj.cells #[Value.int .u8 0, Value.int .u8 0, Value.int .u8 0, Value.int .u8 0, Value.int .u8 0, Value.int .u8 0, Value.int .u8 0, Value.int .u8 0, Value.int .u8 0, Value.int .u8 0, Value.int .u8 0, Value.int .u8 0, Value.int .u8 0, Value.int .u8 0, Value.int .u8 0, Value.int .u8 0, Value.int .u8 0, Value.int .u8 0, Value.int .u8 0, Value.int .u8 0, Value.int .u8 0, Value.int .u8 0, Value.int .u8 0, Value.int .u8 0, Value.int .u8 0, Value.int .u8 0, Value.int .u8 0, Value.int .u8 0, Value.int .u8 0, Value.int .u8 0, Value.int .u8 0, Value.int .u8 0] 47 (0, 0)) := ⟨_, rfl⟩
  obtain ⟨W2, hW2⟩ : ∃ W2, W2 = Lib.bytesWorld W1 5 s := ⟨_, rfl⟩
  obtain ⟨cc, hcc⟩ : ∃ cc, cc = grownCap W1 s.size 0 5 := ⟨_, rfl⟩
  obtain ⟨bc, hbc⟩ : ∃ bc, bc = W1.heap.size := ⟨_, rfl⟩
  have hcv : Sem.run Tryd.prog (convert 9 27 (.string s)) W1 = .ok (.slice (some ⟨bc, 0, none⟩) s.size cc) W2 := by
    rw [hW2, hcc, hbc]
    exact Lib.run_convert_string_bytes W1 9 27 5 s rfl rfl rfl
  have hsl : s.data.toList.length = s.size := by rw [Array.length_toList]; rfl
  have hsb : SB W2 (some ⟨bc, 0, none⟩) s.data.toList := fun _ => ⟨bc, 0, rfl, fun i hi => by
    rw [hW2, hbc, Nat.zero_add, Lib.bytesWorld_cell W1 _ s i (by rw [← hsl]; exact hi)]
    rw [List.getD_eq_getElem?_getD, List.getElem?_eq_getElem hi]; rfl⟩
  have hc1 : Chg (fun _ => False) w W2 := by
    rw [hW2]
    have h1 : Chg (fun _ => False) w W1 := by rw [hW1]; exact Chg.alloc' _ _ _
    exact h1.trans ⟨rfl, rfl, rfl, by rw [Lib.bytesWorld_size]; omega, fun k hk _ => Lib.bytesWorld_at_old _ _ _ k hk⟩
  have hd1 : W2.heap[w.heap.size]? = some (.cells #[Value.int .u8 0, Value.int .u8 0, Value.int .u8 0, Value.int .u8 0, Value.int .u8 0, Value.int .u8 0, Value.int .u8 0, Value.int .u8 0, Value.int .u8 0, Value.int .u8 0, Value.int .u8 0, Value.int .u8 0, Value.int .u8 0, Value.int .u8 0, Value.int .u8 0, Value.int .u8 0, Value.int .u8 0, Value.int .u8 0, Value.int .u8 0, Value.int .u8 0, Value.int .u8 0, Value.int .u8 0, Value.int .u8 0, Value.int .u8 0, Value.int .u8 0, Value.int .u8 0, Value.int .u8 0, Value.int .u8 0, Value.int .u8 0, Value.int .u8 0, Value.int .u8 0, Value.int .u8 0] 47 (0, 0)) := by
    rw [hW2, Lib.bytesWorld_at_old _ _ _ _ (by rw [hW1]; exact lt_of_block (heap_new rfl)), hW1, heap_new rfl]
  have hT0 : Tab0 W2 := HT0.out.kept (hc1.block _ HT0.out.lt (fun h => h))
  have hT1 : Tab W2 := HT1.out.kept (hc1.block _ HT1.out.lt (fun h => h))
  have hsum := sum_calls (some ⟨bc, 0, none⟩) cc s.data.toList W2 (by rw [hsl, hcc]; exact grownCap_ge _ _ _ _) (by rw [hcc]; exact grownCap_le_maxLen _ _ _ _ (by unfold maxLen; omega)) hsb hT0 hT1
  rw [hsl] at hsum
  have HSUM := Lib.hid hsum
  have HC1 := Lib.hid hc1
  have HD1 := Lib.hid hd1
  rw [hW1] at hcv
  clear hsum hc1 hd1 hT0 hT1 hsb hsl hcc hW2 hW1 hbc
  go_enter Tryd.func24, Tryd.ntmps24
  go_wp2_with fail
  refine HSUM.out.mono ?_
  rintro e w3 ⟨rfl, u3⟩
  obtain ⟨D, hD⟩ : ∃ D, D = (u8s (Sha.sum s.data.toList)).toArray := ⟨_, rfl⟩
  rw [← hD]
  have HD := Lib.hid hD
  have hDs : D.size = 32 := by rw [hD, List.size_toArray, u8s_length, Sha.sum_length]
  have HDs := Lib.hid hDs
  have hDc : D.all (·.oneCell') = true := by
    rw [hD, Array.all_eq_true_iff_forall_mem]
    intro v hv
    exact u8s_one _ v (by simpa using hv)
  have HDc := Lib.hid hDc
  clear hD hDs hDc
  go_wp2_with (refine wpList_store_row rfl 47 (.tmp 5) (.tmp 8) rfl _ D rfl rfl 47 _ (heap_new rfl) (by rw [HDs.out]; rfl) (by rw [HDs.out]; rfl) HDc.out ?_)
  obtain ⟨W6, hW6⟩ : ∃ W6, W6 = (((w3.alloc (Obj.cells #[Value.int .u8 0, Value.int .u8 0, Value.int .u8 0, Value.int .u8 0, Value.int .u8 0, Value.int .u8 0, Value.int .u8 0, Value.int .u8 0, Value.int .u8 0, Value.int .u8 0, Value.int .u8 0, Value.int .u8 0, Value.int .u8 0, Value.int .u8 0, Value.int .u8 0, Value.int .u8 0, Value.int .u8 0, Value.int .u8 0, Value.int .u8 0, Value.int .u8 0, Value.int .u8 0, Value.int .u8 0, Value.int .u8 0, Value.int .u8 0, Value.int .u8 0, Value.int .u8 0, Value.int .u8 0, Value.int .u8 0, Value.int .u8 0, Value.int .u8 0, Value.int .u8 0, Value.int .u8 0] 47 (0, 0))).setRow w3.heap.size D).alloc (Obj.cells #[Value.slice (some ⟨w3.heap.size, 0, none⟩) 32 32, Value.slice p l.length cap] 27 (0, 0))) := ⟨_, rfl⟩
  rw [← hW6]
  have u5 : Up w3 ((w3.alloc (Obj.cells #[Value.int .u8 0, Value.int .u8 0, Value.int .u8 0, Value.int .u8 0, Value.int .u8 0, Value.int .u8 0, Value.int .u8 0, Value.int .u8 0, Value.int .u8 0, Value.int .u8 0, Value.int .u8 0, Value.int .u8 0, Value.int .u8 0, Value.int .u8 0, Value.int .u8 0, Value.int .u8 0, Value.int .u8 0, Value.int .u8 0, Value.int .u8 0, Value.int .u8 0, Value.int .u8 0, Value.int .u8 0, Value.int .u8 0, Value.int .u8 0, Value.int .u8 0, Value.int .u8 0, Value.int .u8 0, Value.int .u8 0, Value.int .u8 0, Value.int .u8 0, Value.int .u8 0, Value.int .u8 0] 47 (0, 0))).setRow w3.heap.size D) := below_setRow ((Up.refl w3).alloc _) (Nat.le_refl _) _
  have z5 : ((w3.alloc (Obj.cells #[Value.int .u8 0, Value.int .u8 0, Value.int .u8 0, Value.int .u8 0, Value.int .u8 0, Value.int .u8 0, Value.int .u8 0, Value.int .u8 0, Value.int .u8 0, Value.int .u8 0, Value.int .u8 0, Value.int .u8 0, Value.int .u8 0, Value.int .u8 0, Value.int .u8 0, Value.int .u8 0, Value.int .u8 0, Value.int .u8 0, Value.int .u8 0, Value.int .u8 0, Value.int .u8 0, Value.int .u8 0, Value.int .u8 0, Value.int .u8 0, Value.int .u8 0, Value.int .u8 0, Value.int .u8 0, Value.int .u8 0, Value.int .u8 0, Value.int .u8 0, Value.int .u8 0, Value.int .u8 0] 47 (0, 0))).setRow w3.heap.size D).heap.size = w3.heap.size + 1 := by simp [World.setRow]
  have h5 := setRow_heap (w3.alloc (Obj.cells #[Value.int .u8 0, Value.int .u8 0, Value.int .u8 0, Value.int .u8 0, Value.int .u8 0, Value.int .u8 0, Value.int .u8 0, Value.int .u8 0, Value.int .u8 0, Value.int .u8 0, Value.int .u8 0, Value.int .u8 0, Value.int .u8 0, Value.int .u8 0, Value.int .u8 0, Value.int .u8 0, Value.int .u8 0, Value.int .u8 0, Value.int .u8 0, Value.int .u8 0, Value.int .u8 0, Value.int .u8 0, Value.int .u8 0, Value.int .u8 0, Value.int .u8 0, Value.int .u8 0, Value.int .u8 0, Value.int .u8 0, Value.int .u8 0, Value.int .u8 0, Value.int .u8 0, Value.int .u8 0] 47 (0, 0))) w3.heap.size _ D _ _ (heap_new rfl)
  have u6 : Up w3 W6 := by rw [hW6]; exact u5.alloc _
  have h6 : W6.heap[w3.heap.size]? = some (.cells D 47 (0, 0)) := by rw [hW6, heap_old (by rw [z5]; omega)]; exact h5
  have h7 : W6.heap[w3.heap.size + 1]? = some (.cells #[Value.slice (some ⟨w3.heap.size, 0, none⟩) 32 32, Value.slice p l.length cap] 27 (0, 0)) := by rw [hW6, heap_new z5.symm]
  have uw : Up w w3 := Up.trans (HC1.out.below (Nat.le_refl _) (fun _ _ h => h)) u3
  have uw6 : Up w W6 := Up.trans uw u6
  have UW6 : Hid (Up W2 W6) := Up.trans u3 u6
  have hsb1 : SB W6 (some ⟨w3.heap.size, 0, none⟩) (Sha.sum s.data.toList) := fun _ => ⟨_, _, rfl, Bs.of_row (l := []) (r := Sha.sum s.data.toList) (by rw [h6, HD.out, List.nil_append]) (List.prefix_refl _) rfl⟩
  have hsb2 : SB W6 p l := HB.out.kept fun b hb => uw6.block b hb
  have hcon := concat_calls (some ⟨w3.heap.size, 0, none⟩) p 32 cap (w3.heap.size + 1) 27 (Sha.sum s.data.toList) l W6 (by rw [Sha.sum_length]; omega) (by rw [Sha.sum_length]; omega) hl hsb1 hsb2 (by rw [h7, Sha.sum_length])
  have HCON := Lib.hid hcon
  have HUW6 := Lib.hid uw6
  clear hW6 u5 z5 h5 u6 h6 h7 uw uw6 hsb1 hsb2 hcon
  refine HCON.out.mono ?_
  rintro e w7 ⟨B, cap7, hge, hle, rfl, u7, hB7⟩
  have u8 : Up w w7 := Up.trans HUW6.out u7
  have UW7 : Hid (Up W2 w7) := Up.trans UW6.out u7
  have hsum := sum_calls (some ⟨B, 0, none⟩) cap7 (Sha.sum s.data.toList ++ l) w7 (by rw [List.length_append]; exact hge) hle (fun _ => ⟨B, 0, rfl, hB7⟩) (HT0.out.kept (u8.block _ HT0.out.lt)) (HT1.out.kept (u8.block _ HT1.out.lt))
  rw [List.length_append] at hsum
  have HSUM2 := Lib.hid hsum
  have HU8 := Lib.hid u8
  clear hsum hB7 u7 u8
  go_wp2_with fail
  refine HSUM2.out.mono ?_
  rintro e w9 ⟨rfl, u9⟩
  have HU9 : Hid (Up w w9) := Up.trans HU8.out u9
  have hd9 := ((Up.trans UW7.out u9).block _ (lt_of_block HD1.out)).trans HD1.out
  have HD9 := Lib.hid hd9
  obtain ⟨D2, hD2⟩ : ∃ D, D = (u8s (Sha.sum (Sha.sum s.data.toList ++ l))).toArray := ⟨_, rfl⟩
  rw [← hD2]
  have hfin : Sha.tagged s.data.toList l = Sha.sum (Sha.sum s.data.toList ++ l) := rfl
  have HFIN := Lib.hid hfin
  have HD2 := Lib.hid hD2
  have hD2s : D2.size = 32 := by rw [hD2, List.size_toArray, u8s_length, Sha.sum_length]
  have hD2c : D2.all (·.oneCell') = true := by
    rw [hD2, Array.all_eq_true_iff_forall_mem]
    intro v hv
    exact u8s_one _ v (by simpa using hv)
  have HD2s := Lib.hid hD2s
  have HD2c := Lib.hid hD2c
  clear hfin hD2 u9 hd9 hD2s hD2c
  go_wp2_with (refine wpList_store_row rfl 47 (.tmp 4) (.tmp 13) rfl _ D2 rfl rfl 47 _ HD9.out (by rw [HD2s.out]; rfl) (by rw [HD2s.out]; rfl) HD2c.out ?_)
  refine bodyPost_ret (results_cell_row rfl _ _ w.heap.size _ D2 (0, 0) _ rfl (setRow_heap _ _ _ _ _ _ HD9.out) rfl rfl (by rw [HD2s.out]; rfl)) rfl ?_
  exact ⟨by rw [HD2.out, HFIN.out], below_setRow HU9.out (Nat.le_refl _) _⟩

end Go.Proofs.YtmifpokafaiebaaDoor
