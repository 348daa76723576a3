/- THE WALK OF acequiaref02.Tagged. -/
import Derived.Test.YtmifpokafaiebaaDoorR02S
namespace Go.Proofs.YtmifpokafaiebaaDoor
open Go.RowKit
set_option linter.unusedVariables false

theorem calls_named {P : Program} {f : FuncId} {args : Array Value} {w0 : World} {Q : Ending → World → Prop} (h : ∀ W, W = w0 → Calls P f args W Q) : Calls P f args w0 Q := h _ rfl

set_option maxRecDepth 100000 in
set_option maxHeartbeats 1000000 in
theorem rtagged_calls (s : ByteArray) (p : Option Addr) (cap : Nat) (l : List UInt8) (w : World) (hs : s.size ≤ 200) (hl : l.length ≤ 1073741824) (hcap : l.length ≤ cap) (hm : cap ≤ maxLen) (hb : SB w p l) :
    Calls Tryd.prog 35 #[.string s, .slice p l.length cap] w fun e w' => e = .returned (.agg (u8s (Sha.tagged s.data.toList l)).toArray) ∧ Up w w' := by
  have HB := Lib.hid hb
  clear hb
  have hcv : ∀ W, Sem.run Tryd.prog (convert 9 27 (.string s)) W = .ok (.slice (some ⟨W.heap.size, 0, none⟩) s.size (grownCap W s.size 0 5)) (Lib.bytesWorld W 5 s) :=
    fun W => Lib.run_convert_string_bytes W 9 27 5 s rfl rfl rfl
  have hsl : s.data.toList.length = s.size := by rw [Array.length_toList]; rfl
  have HSL := Lib.hid hsl
  clear hsl
  go_enter Tryd.func35, Tryd.ntmps35
  go_wp2_with fail
  refine calls_named ?_
  intro W2 hW2
  obtain ⟨W1, hW1, hW2⟩ : ∃ W1, (Up w W1 ∧ W1.heap.size = w.heap.size + 1 ∧ W1.heap[w.heap.size]? = some (.cells (u8s (List.replicate 32 0)).toArray 47 (0, 0))) ∧ W2 = Lib.bytesWorld W1 5 s := ⟨_, ⟨(Up.refl w).alloc _, by simp, heap_new rfl⟩, hW2⟩
  have hsb : SB W2 (some ⟨w.heap.size + 1, 0, none⟩) s.data.toList := fun _ => ⟨_, 0, rfl, fun i hi => by
    rw [hW2, Nat.zero_add, ← hW1.2.1, Lib.bytesWorld_cell W1 _ s i (by rw [← HSL.out]; exact hi)]
    rw [List.getD_eq_getElem?_getD, List.getElem?_eq_getElem hi]; rfl⟩
  have hu2 : Up w W2 := by
    rw [hW2]
    exact Up.trans hW1.1 ⟨rfl, rfl, rfl, by rw [Lib.bytesWorld_size]; omega, fun k hk => Lib.bytesWorld_at_old _ _ _ k hk⟩
  have hd2 : W2.heap[w.heap.size]? = some (.cells (u8s (List.replicate 32 0)).toArray 47 (0, 0)) := by
    rw [hW2, Lib.bytesWorld_at_old _ _ _ _ (by rw [hW1.2.1]; omega)]; exact hW1.2.2
  have hz2 : w.heap.size + 2 ≤ W2.heap.size := by rw [hW2, Lib.bytesWorld_size, hW1.2.1]; omega
  have HD2 := Lib.hid hd2
  have HU2 := Lib.hid hu2
  clear hW2 hW1 hd2 hu2 hcv
  rw [← HSL.out]
  refine (rsum_calls _ _ _ _ (grownCap_ge _ _ _ _) (grownCap_le_maxLen _ _ _ _ (by unfold maxLen; rw [HSL.out]; omega)) (by rw [HSL.out]; omega) hsb).mono ?_
  rintro e w3 ⟨rfl, u3⟩
  obtain ⟨D, hD⟩ : ∃ D, D = (u8s (Sha.sum s.data.toList)).toArray := ⟨_, rfl⟩
  rw [← hD]
  have hDs : D.size = 32 := by rw [hD, List.size_toArray, u8s_length, Sha.sum_length]
  have hDc : D.all (·.oneCell') = true := by rw [hD]; exact u8s_all _
  have HDs := Lib.hid hDs
  have HDc := Lib.hid hDc
  have HD := Lib.hid hD
  have HU3 : Hid (Up w w3) := Up.trans HU2.out u3
  have HD3 : Hid (w3.heap[w.heap.size]? = some (.cells (u8s (List.replicate 32 0)).toArray 47 (0, 0))) := (u3.block _ (by omega)).trans HD2.out
  have hz3 : w.heap.size + 2 ≤ w3.heap.size := Nat.le_trans hz2 u3.size
  obtain ⟨n, hn⟩ : ∃ n, n = l.length := ⟨_, rfl⟩
  rw [← hn] at hl hcap
  rw [← hn]
  have HN := Lib.hid hn
  clear hD hDs hDc u3 hsb hz2 hn
  unfold maxLen at hm
  go_wp2_with (first | (refine wpList_named ?_; intro WA hWA; refine wpList_store_rowTo rfl 47 (.tmp 5) (.tmp 8) rfl rfl _ D rfl rfl 47 _ (by rw [hWA]; exact heap_new rfl) (by rw [HDs.out]; rfl) (by rw [HDs.out]; rfl) HDc.out ?_; refine wpList_named ?_; intro W4 hW4; have U34 : Up w3 W4 := (by rw [hW4, hWA]; exact below_setRow ((Up.refl w3).alloc _) (Nat.le_refl _) _); have U4 : Hid (Up w W4) := Up.trans HU3.out U34; have S4 : Hid (SB W4 (some ⟨w3.heap.size, 0, none⟩) (Sha.sum s.data.toList)) := (SB.of_digest (t := 47) (by rw [hW4, setRow_heap _ _ _ _ 47 (0, 0) (by rw [hWA]; exact heap_new rfl), HD.out])); have D4 : Hid (W4.heap[w.heap.size]? = some (.cells (u8s (List.replicate 32 0)).toArray 47 (0, 0))) := (U34.block _ (by omega)).trans HD3.out; clear hWA hW4 U34) | (at_builtin; refine wpList_app rfl (.tmp 9) (.tmp 10) rfl rfl _ _ _ _ _ _ (Sha.sum s.data.toList) rfl rfl (by rw [Sha.sum_length]) (Own.empty W4) (S4.out.up ((Up.refl _).alloc _)) (by rw [Sha.sum_length]; simp) (by simp) ?_; intro v5 W5 o5 b5; have O5 := Lib.hid o5; have Z5 : Hid (W4.heap.size ≤ W5.heap.size) := (by have := b5.size; simp at this; show _ ≤ _; omega); have B5 : Hid (Up w W5) := Up.trans U4.out (Below.trans ((Up.refl W4).alloc _) b5); have D5 : Hid (W5.heap[w.heap.size]? = some (.cells (u8s (List.replicate 32 0)).toArray 47 (0, 0))) := ((b5.block _ (lt_of_block D4.out)).trans (heap_old (lt_of_block D4.out))).trans D4.out; clear o5 b5) | (at_builtin; refine wpList_app rfl (.tmp 11) (.tmp 12) rfl rfl W4.heap.size _ _ _ _ _ l rfl rfl HN.out O5.out (HB.out.up B5.out) (by rw [List.nil_append, Sha.sum_length, ← HN.out]; omega) Z5.out ?_; intro v6 W6 o6 b6; have O6 := Lib.hid o6; have B6 := Lib.hid b6; clear o6 b6))
  obtain ⟨p6, c6, rfl, hc61, hc62, sb6⟩ := O6.out.form
  have hlen : (([] ++ Sha.sum s.data.toList) ++ l).length ≤ 2147483648 := by rw [List.nil_append, List.length_append, Sha.sum_length, ← HN.out]; omega
  have hu6 : Up w W6 := by
    have a := B5.out
    exact Below.trans a (B6.out.mono (by have := HU3.out.size; have := U4.out.size; omega))
  have HU6 := Lib.hid hu6
  have D6 : Hid (W6.heap[w.heap.size]? = some (.cells (u8s (List.replicate 32 0)).toArray 47 (0, 0))) := (B6.out.block _ (lt_of_block D4.out)).trans D5.out
  refine (rsum_calls p6 c6 _ W6 hc61 hc62 hlen sb6).mono ?_
  rintro e w9 ⟨rfl, u9⟩
  have HU9 : Hid (Up w w9) := Up.trans HU6.out u9
  have D9 : Hid (w9.heap[w.heap.size]? = some (.cells (u8s (List.replicate 32 0)).toArray 47 (0, 0))) := (u9.block _ (lt_of_block D6.out)).trans D6.out
  obtain ⟨E, hE⟩ : ∃ E, E = (u8s (Sha.tagged s.data.toList l)).toArray := ⟨_, rfl⟩
  rw [show (u8s (Sha.sum (([] ++ Sha.sum s.data.toList) ++ l))).toArray = E by rw [hE]; rfl]
  have HE := Lib.hid hE
  have hEs : E.size = 32 := by rw [hE, List.size_toArray, u8s_length, Sha.tagged_length]
  have hEc : E.all (·.oneCell') = true := by rw [hE]; exact u8s_all _
  have HEs := Lib.hid hEs
  have HEc := Lib.hid hEc
  clear hE hEs hEc u9 hu6 hlen hc61 hc62 sb6 O6 O5
  go_wp2_with (refine wpList_store_rowTo rfl 47 (.tmp 4) (.tmp 14) rfl rfl w.heap.size E rfl rfl 47 _ D9.out (by rw [HEs.out]; rfl) (by rw [HEs.out]; rfl) HEc.out ?_)
  refine bodyPost_ret (results_cell_row rfl _ _ w.heap.size _ E (0, 0) _ rfl (setRow_heap _ _ _ _ _ _ D9.out) rfl rfl (by rw [HEs.out]; rfl)) rfl ?_
  exact ⟨by rw [HE.out], below_setRow HU9.out (Nat.le_refl _) _⟩

end Go.Proofs.YtmifpokafaiebaaDoor
