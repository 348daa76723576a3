/- THE WALK OF acequiaref02.numbers. -/
import Derived.Test.YtmifpokafaiebaaDoorAbs
import Derived.Test.YtmifpokafaiebaaDoorR02
namespace Go.Proofs.YtmifpokafaiebaaDoor
open Go.RowKit
set_option linter.unusedVariables false
set_option maxRecDepth 100000

theorem K_arr : (u32s Sha.K).toArray = #[Value.int .u32 1116352408, Value.int .u32 1899447441, Value.int .u32 3049323471, Value.int .u32 3921009573, Value.int .u32 961987163, Value.int .u32 1508970993, Value.int .u32 2453635748, Value.int .u32 2870763221, Value.int .u32 3624381080, Value.int .u32 310598401, Value.int .u32 607225278, Value.int .u32 1426881987, Value.int .u32 1925078388, Value.int .u32 2162078206, Value.int .u32 2614888103, Value.int .u32 3248222580, Value.int .u32 3835390401, Value.int .u32 4022224774, Value.int .u32 264347078, Value.int .u32 604807628, Value.int .u32 770255983, Value.int .u32 1249150122, Value.int .u32 1555081692, Value.int .u32 1996064986, Value.int .u32 2554220882, Value.int .u32 2821834349, Value.int .u32 2952996808, Value.int .u32 3210313671, Value.int .u32 3336571891, Value.int .u32 3584528711, Value.int .u32 113926993, Value.int .u32 338241895, Value.int .u32 666307205, Value.int .u32 773529912, Value.int .u32 1294757372, Value.int .u32 1396182291, Value.int .u32 1695183700, Value.int .u32 1986661051, Value.int .u32 2177026350, Value.int .u32 2456956037, Value.int .u32 2730485921, Value.int .u32 2820302411, Value.int .u32 3259730800, Value.int .u32 3345764771, Value.int .u32 3516065817, Value.int .u32 3600352804, Value.int .u32 4094571909, Value.int .u32 275423344, Value.int .u32 430227734, Value.int .u32 506948616, Value.int .u32 659060556, Value.int .u32 883997877, Value.int .u32 958139571, Value.int .u32 1322822218, Value.int .u32 1537002063, Value.int .u32 1747873779, Value.int .u32 1955562222, Value.int .u32 2024104815, Value.int .u32 2227730452, Value.int .u32 2361852424, Value.int .u32 2428436474, Value.int .u32 2756734187, Value.int .u32 3204031479, Value.int .u32 3329325298] := by rfl

set_option maxRecDepth 100000 in
set_option maxHeartbeats 1000000 in
theorem rnumbers_calls (w : World) : Calls Tryd.prog 74 #[] w fun e w' => e = .returned (.agg (u32s Sha.K).toArray) ∧ Up w w' := by
  go_enter Tryd.func74, Tryd.ntmps74
  go_wp2_with (first | (refine wpList_build rfl 113 _ rfl (by kernel_rfl) ?_; rw [show Option.getD _ _ = (u32s Sha.K).toArray from by kernel_rfl]) | refine wpList_store_row rfl 113 (.tmp 0) (.tmp 1) rfl w.heap.size _ rfl rfl 113 _ (heap_new rfl) (by kernel_rfl) (by kernel_rfl) (by kernel_rfl) ?_; refine wpList_named ?_; intro W2 hW2; have h2 : W2.heap[w.heap.size]? = some (.cells (u32s Sha.K).toArray 113 (0, 0)) := (by rw [hW2]; exact setRow_heap _ _ _ _ _ _ (heap_new rfl)); have u2 : Up w W2 := (by rw [hW2]; exact below_setRow ((Up.refl w).alloc _) (Nat.le_refl _) _); clear hW2)
  first
    | refine bodyPost_ret (results_cell_row rfl _ _ w.heap.size _ (u32s Sha.K).toArray (0, 0) _ rfl h2 rfl (by kernel_rfl) (by kernel_rfl)) rfl ?_
    | go_ret
  exact ⟨rfl, u2⟩

end Go.Proofs.YtmifpokafaiebaaDoor
