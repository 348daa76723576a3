/- THE WALKS OF PACKAGE codec, 5: Check and Encode, at a list. -/
import Derived.Test.YtmifpokafaiebaaDoorCod4
namespace Go.Proofs.YtmifpokafaiebaaDoor
open Go.RowKit
set_option linter.unusedVariables false
set_option maxRecDepth 100000

set_option maxRecDepth 100000 in
set_option maxHeartbeats 1000000 in
theorem check_calls (k n : Int) (s : ByteArray) (p : Option Addr) (len cap d : Nat) (w0 w : World) (hf : FormedAs w0 (vCells k n s (.slice p len cap)) d) (hd : d ≤ 16) (hu : Up w0 w) :
    Calls Tryd.prog 47 #[.agg (vCells k n s (.slice p len cap))] w fun e w' => e = .returned (.int .i64 0) ∧ Up w w' := by
  unfold vCells at *
  have HF := Lib.hid hf
  clear hf
  go_enter Tryd.func47, Tryd.ntmps47
  go_wp2_with fail
  refine calls_named0 ?_
  intro W hW
  have hu1 : Up w W := by rw [hW]; exact (Up.refl w).alloc _
  have HU1 := Lib.hid hu1
  clear hW hu1
  refine (HF.out W (Up.trans hu HU1.out)).mono ?_
  rintro r w2 ⟨rfl, u2⟩
  have HU2 : Hid (Up w w2) := Up.trans HU1.out u2
  clear u2
  go_wp2_with fail
  go_ret
  exact ⟨rfl, HU2.out⟩

theorem up_grown {w w' : World} (h : Up w w') : w.grownBy w' none := ⟨h.os, h.tape, h.output, h.size, fun k hk _ => h.block k hk⟩
theorem grown_up {w w' : World} (h : w.grownBy w' none) : Up w w' := ⟨h.os, h.tape, h.output, h.size, fun k hk => h.block k hk (by simp)⟩

/-- what Encode asks of an element that lies in w -/
def ElIn (w : World) (el : El) : Prop := FormedAs w el.x el.d ∧ el.d ≤ 15 ∧ ∀ (w0 : World) (base bw bv : Nat), Up w w0 → Writer w0 bw bv → bw < base → bv < base → base ≤ w0.heap.size → w.heap.size ≤ base → el.ok w0 base bv

set_option maxRecDepth 100000 in
set_option maxHeartbeats 1000000 in
theorem encode_calls (p : Option Addr) (cap : Nat) (els : List El) (w : World) (hels : ∀ el ∈ els, ElIn w el) (hmem : Els w p els) (hlow : ∀ b o, p = some ⟨b, o, none⟩ → b < w.heap.size) (hlen : els.length ≤ 65536) (htot : (encEls els).length ≤ 268435456) :
    Calls Tryd.prog 29 #[.agg (vCells 3 0 ⟨#[]⟩ (.slice p els.length cap))] w fun e w' => ∃ v, e = .returned (.tuple #[v, .int .i64 0]) ∧ Own w' w.heap.size v (Enc.encL (els.map El.e)) ∧ Up w w' := by
  have hdep : depthEls els ≤ 15 := depthEls_le els 15 fun el hel => (hels el hel).2.1
  have hfm : FormedAs w (vCells 3 0 ⟨#[]⟩ (.slice p els.length cap)) (depthEls els + 1) := formedList_calls p cap els w (fun el hel => ⟨(hels el hel).1, by have := (hels el hel).2.1; omega⟩) hmem hlen
  have HCK := Lib.hid fun W (hu : Up w W) => check_calls 3 0 ⟨#[]⟩ p els.length cap (depthEls els + 1) w W hfm (by omega) hu
  have HWL : Hid (∀ (w0 W : World) (base bw bv : Nat), Up w w0 → Writer w0 bw bv → bw < base → bv < base → base ≤ w0.heap.size → w.heap.size ≤ base → Below base w0 W → base ≤ W.heap.size →
      Calls Tryd.prog 62 #[.slice none 0 0, .agg (vCells 3 0 ⟨#[]⟩ (.slice p els.length cap)), .pointer (some ⟨bv, 0, none⟩)] W fun e w' => ∃ v', e = .returned v' ∧ Own w' base v' (Enc.encL (els.map El.e)) ∧ Grow W w' (.slice none 0 0) v') := fun w0 W base bw bv h1 h2 h3 h4 h5 h6 h7 h8 => by
    have := writeList_calls w0 base bw bv h2 h3 h4 p cap els 0 ⟨#[]⟩ (fun el hel => (hels el hel).2.2 w0 base bw bv h1 h2 h3 h4 h5 h6) (fun hne => by
        obtain ⟨b, o, hp, hc⟩ := hmem hne
        refine ⟨b, o, hp, fun i hi => ?_⟩
        have hb := hlow b o hp
        have e : ∀ j, w0.cell? ⟨b, j, none⟩ = w.cell? ⟨b, j, none⟩ := fun j => h1.below.cell (p := ⟨b, j, none⟩) hb
        rw [e, e, e, e]
        exact hc i hi) (fun b o hp => Nat.lt_of_lt_of_le (hlow b o hp) h6) hlen htot (.slice none 0 0) [] W h7 (Own.nil W base) (by rw [Enc.encL, List.length_cons, List.length_append]; have := Enc.num_length (els.map El.e).length; rw [encEls] at htot; simp only [List.length_nil]; omega) h8
    exact this.mono fun e w' ⟨v', he, ho, _, hg⟩ => ⟨v', he, ho, hg⟩
  clear hels hmem hlow hlen htot hdep hfm
  obtain ⟨m, hm⟩ : ∃ m, m = els.length := ⟨_, rfl⟩
  rw [← hm] at HCK HWL
  rw [← hm]
  clear hm
  unfold vCells at *
  go_enter Tryd.func29, Tryd.ntmps29
  go_wp2_with fail
  refine calls_named0 ?_
  intro W hW
  obtain ⟨bx, hbx⟩ : ∃ bx, bx = w.heap.size := ⟨_, rfl⟩
  rw [← hbx]
  have hu1 : Up w W := by rw [hW]; exact (Up.refl w).alloc _
  have hx : W.heap[bx]? = some (.cells #[.int .i64 3, .int .i64 0, .string ⟨#[]⟩, .slice p m cap] 64 (0, 0)) := by rw [hW]; exact heap_new hbx
  have HU1 := Lib.hid hu1
  have HX := Lib.hid hx
  have HBX := Lib.hid hbx
  clear hW hu1 hx hbx
  refine (HCK.out W HU1.out).mono ?_
  rintro r w2 ⟨rfl, u2⟩
  have HU2 : Hid (Up w w2) := Up.trans HU1.out u2
  have HX2 : Hid (w2.heap[bx]? = some (.cells #[.int .i64 3, .int .i64 0, .string ⟨#[]⟩, .slice p m cap] 64 (0, 0))) := (u2.block bx (lt_of_block HX.out)).trans HX.out
  clear u2
  go_wp2_with fail
  refine wp_region_mix_at [1, 2, 7] [0, 3, 4, 5, 6, 8, 9, 10] (by kernel_rfl) (by kernel_rfl) (fun _ _ d _ _ h => by cases d <;> exact h) ?_
  intro W3 u3 hW3
  refine ⟨fun W' => W3.grownBy W' none, up_grown (Up.refl _), ?_⟩
  have hx3 : W3.heap[bx]? = some (.cells #[.int .i64 3, .int .i64 0, .string ⟨#[]⟩, .slice p m cap] 64 (0, 0)) := by rw [hW3]; exact HX2.out
  have kx : ∀ (x : InC (fun W' => W3.grownBy W' none)) (j : Nat), x.w.cell? ⟨bx, j, none⟩ = (#[Value.int .i64 3, .int .i64 0, .string ⟨#[]⟩, .slice p m cap] : Array Value)[j]? := fun x j => by
    rw [cell_of_row x.w bx j _ _ _ ((x.h.block bx (lt_of_block hx3) (by simp)).trans hx3)]
  have K0 : ∀ x : InC (fun W' => W3.grownBy W' none), x.w.cell? ⟨bx, 0, none⟩ = some (.int .i64 3) := fun x => kx x 0
  have K1 : ∀ x : InC (fun W' => W3.grownBy W' none), x.w.cell? ⟨bx, 1, none⟩ = some (.int .i64 0) := fun x => kx x 1
  have K2 : ∀ x : InC (fun W' => W3.grownBy W' none), x.w.cell? ⟨bx, 2, none⟩ = some (.string ⟨#[]⟩) := fun x => kx x 2
  have K3 : ∀ x : InC (fun W' => W3.grownBy W' none), x.w.cell? ⟨bx, 3, none⟩ = some (.slice p m cap) := fun x => kx x 3
  have HU3 : Hid (Up w W3) := Up.trans HU2.out u3
  haveI : Nonempty (InC (fun W' => W3.grownBy W' none)) := ⟨⟨W3, up_grown (Up.refl _)⟩⟩
  clear u3 hW3 hx3 kx
  simp only [pick, List.getElem?_cons_zero, List.getElem?_cons_succ]
  repeat (refine wpStillC_step (fun K hK => ?_); go_simp; refine hK _ ?_; clear hK K)
  refine wpStillC_nil ?_
  clear K0 K1 K2 K3
  refine wpChain_step (fun K hK => ?_)
  go_simp
  refine (newWriter_calls W3).mono ?_
  rintro r W4 ⟨rfl, u4, hwr, hz4⟩
  obtain ⟨bw, hbw⟩ : ∃ bw, bw = W3.heap.size := ⟨_, rfl⟩
  rw [← hbw] at hwr hz4
  rw [← hbw]
  have HU4 := Lib.hid u4
  have HWR := Lib.hid hwr
  have HZ4 := Lib.hid hz4
  have HBW := Lib.hid hbw
  have d1 : W4.cell? ⟨bw, 3, none⟩ = some (.func (.func 62) #[] #[.pointer (some ⟨bw + 1, 0, none⟩)]) := by rw [cell_of_row W4 bw 3 _ _ _ hwr.1]; rfl
  refine hK _ _ (inC (up_grown u4)) ?_
  clear hK K u4 hwr hz4 hbw
  iterate 4
    refine wpChain_step (fun K hK => ?_)
    go_simp
    refine hK _ _ (inC (up_grown HU4.out)) ?_
    clear hK K
  refine wpChain_step (fun K hK => ?_)
  go_simp
  refine (HWL.out W4 W4 (bw + 2) bw (bw + 1) (Up.trans HU3.out HU4.out) HWR.out (by omega) (by omega) (by rw [HZ4.out]; exact Nat.le_refl _) (by have := HU3.out.size; have := HBW.out; omega) (Below.refl _ _) (by rw [HZ4.out]; exact Nat.le_refl _)).mono ?_
  rintro r W5 ⟨v5, rfl, o5, g5⟩
  have O5 := Lib.hid o5
  have U5 : Hid (Up W3 W5) := Up.trans HU4.out (grown_up g5.grown)
  refine hK _ _ (inC (up_grown U5.out)) ?_
  clear hK K o5 g5
  iterate 2
    refine wpChain_step (fun K hK => ?_)
    go_simp
    refine hK _ _ (inC (up_grown U5.out)) ?_
    clear hK K
  refine wpChain_nil ?_
  go_wp2
  go_ret2
  exact ⟨_, rfl, O5.out.less (by have := HU3.out.size; have := HBW.out; omega), Up.trans HU3.out U5.out⟩

end Go.Proofs.YtmifpokafaiebaaDoor
