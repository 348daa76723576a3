/- THE WALKS OF PACKAGE codec, 4: formed, Check. -/
import Derived.Test.YtmifpokafaiebaaDoorCod3
namespace Go.Proofs.YtmifpokafaiebaaDoor
open Go.RowKit
set_option linter.unusedVariables false
set_option maxRecDepth 100000

set_option maxRecDepth 100000 in
set_option maxHeartbeats 1000000 in
theorem formedInt_calls (n : Int) (p : Option Addr) (c : Nat) (w : World) :
    Calls Tryd.prog 57 #[.agg (vCells 1 n ⟨#[]⟩ (.slice p 0 c))] w fun e w' => e = .returned (.tuple #[.int .i64 0, .bool true]) ∧ Up w w' := by
  unfold vCells
  go_enter Tryd.func57, Tryd.ntmps57
  go_wp2_with fail
  all_goals (go_ret2; exact ⟨rfl, ((Up.refl w).alloc _).alloc _⟩)

set_option maxRecDepth 100000 in
set_option maxHeartbeats 1000000 in
theorem formedText_calls (s : ByteArray) (p : Option Addr) (c : Nat) (w : World) :
    Calls Tryd.prog 57 #[.agg (vCells 2 0 s (.slice p 0 c))] w fun e w' => e = .returned (.tuple #[.int .i64 0, .bool true]) ∧ Up w w' := by
  unfold vCells
  go_enter Tryd.func57, Tryd.ntmps57
  go_wp2_with fail
  all_goals (go_ret2; exact ⟨rfl, ((Up.refl w).alloc _).alloc _⟩)

theorem calls_named0 {P : Program} {f : FuncId} {args : Array Value} {w0 : World} {Q : Ending → World → Prop} (h : ∀ W, W = w0 → Calls P f args W Q) : Calls P f args w0 Q := h _ rfl

/-- in every world with more blocks than w0 the value is well-formed, of depth d -/
def FormedAs (w0 : World) (x : Array Value) (d : Nat) : Prop :=
  ∀ W : World, Up w0 W → Calls Tryd.prog 57 #[.agg x] W fun r W' => r = .returned (.tuple #[.int .i64 d, .bool true]) ∧ Up W W'

def depthEls (els : List El) : Nat := els.foldl (fun m el => max m el.d) 0
theorem depthEls_le (els : List El) (D : Nat) (h : ∀ el ∈ els, el.d ≤ D) : depthEls els ≤ D := by
  have key : ∀ (l : List El) (a : Nat), a ≤ D → (∀ el ∈ l, el.d ≤ D) → l.foldl (fun m el => max m el.d) a ≤ D := by
    intro l
    induction l with
    | nil => intro a ha _; exact ha
    | cons x xs ih => intro a ha hx; exact ih _ (by have := hx x (by simp); show max a x.d ≤ D; omega) fun el hel => hx el (by simp [hel])
  exact key els 0 (by omega) h

theorem depthEls_snoc (l : List El) (x : El) : depthEls (l ++ [x]) = max (depthEls l) x.d := by simp [depthEls, List.foldl_append]

set_option maxRecDepth 100000 in
set_option maxHeartbeats 1000000 in
theorem formedList_calls (p : Option Addr) (cap : Nat) (els : List El) (w0 : World)
    (hels : ∀ el ∈ els, FormedAs w0 el.x el.d ∧ el.d ≤ 100) (hmem : Els w0 p els) (hlen : els.length ≤ 65536) : FormedAs w0 (vCells 3 0 ⟨#[]⟩ (.slice p els.length cap)) (depthEls els + 1) := by
  intro w hup
  have HUP := Lib.hid hup
  have HM := Lib.hid hmem
  have HE := Lib.hid hels
  clear hup hmem hels
  obtain ⟨m, hm⟩ : ∃ m, m = els.length := ⟨_, rfl⟩
  rw [← hm] at hlen
  rw [← hm]
  have HMM := Lib.hid hm
  clear hm
  unfold vCells
  go_enter Tryd.func57, Tryd.ntmps57
  go_wp2_with fail
  all_goals
    refine wp_named ?_
    intro W1 hW1
    have u1 : Up w W1 := by rw [hW1]; exact ((Up.refl w).alloc _).alloc _
    have U1 := Lib.hid u1
    clear hW1 u1
    go_loopw [2, 6, 7, 8, 57] (fun vd _ _ _ vi wq => ∃ i : Nat, i ≤ m ∧ vi = .int .i64 i ∧ Hid (vd = .int .i64 (depthEls (els.take i) : Nat)) ∧ Hid (Up w wq))
      (fun _ _ _ _ vi _ => m - (intOf vi).toNat)
    case atStart => exact ⟨0, by omega, rfl, rfl, U1.out⟩
    case round =>
      obtain ⟨i, hi, rfl, hvd, HU⟩ := hrel
      obtain rfl := hvd.out
      clear hvd
      have hdb : depthEls (els.take i) ≤ 100 := depthEls_le _ 100 fun el hel => (HE.out el (List.mem_of_mem_take hel)).2
      by_cases hlt : i < m
      · have hi2 : i < els.length := by rw [← HMM.out]; exact hlt
        obtain ⟨b, o, hp, hcells⟩ := HM.out (fun e => by rw [e] at hi2; simp at hi2)
        obtain ⟨c0, c1, c2, c3⟩ := hcells i hi2
        obtain ⟨hfm, hd100⟩ := HE.out els[i] (List.getElem_mem hi2)
        have hstep : depthEls (els.take (i + 1)) = max (depthEls (els.take i)) els[i].d := by
          rw [List.take_succ_eq_append_getElem hi2, depthEls_snoc]
        have hu0 : Up w0 wr := Up.trans HUP.out HU.out
        have hc : ∀ j v, w0.cell? ⟨b, j, none⟩ = some v → wr.cell? ⟨b, j, none⟩ = some v := fun j v h =>
          (hu0.below.cell (p := ⟨b, j, none⟩) (block_lt_of_cell h)).trans h
        replace c0 := hc _ _ c0
        replace c1 := hc _ _ c1
        replace c2 := hc _ _ c2
        replace c3 := hc _ _ c3
        obtain ⟨el, hel⟩ : ∃ el, el = els[i] := ⟨_, rfl⟩
        rw [← hel] at c0 c1 c2 c3 hfm hd100 hstep
        obtain ⟨k, n', s', lp', ln', lc', d', e'⟩ := el
        simp only at c0 c1 c2 c3 hfm hd100 hstep
        have HF : Hid (∀ W, Up wr W → Calls Tryd.prog 57 #[.agg #[.int .i64 k, .int .i64 n', .string s', .slice lp' ln' lc']] W fun r W' => r = .returned (.tuple #[.int .i64 d', .bool true]) ∧ Up W W') := fun W hW => hfm W (Up.trans hu0 hW)
        have HSTEP := Lib.hid hstep
        subst hp
        obtain ⟨dd, hdd⟩ : ∃ dd, dd = depthEls (els.take i) := ⟨_, rfl⟩
        rw [← hdd] at hdb HSTEP
        rw [← hdd]
        clear hstep hu0 hfm hcells hc hel hi2 hdd
        go_wp2_with fail
        refine calls_named0 ?_
        intro W6 hW6
        have hu6 : Hid (Up wr W6) := by show Up wr W6; rw [hW6]; exact (Up.refl wr).alloc _
        clear hW6 c0 c1 c2 c3
        refine (HF.out W6 hu6.out).mono ?_
        rintro r W7 ⟨rfl, u7⟩
        have HU7 : Hid (Up w W7) := Up.trans HU.out (Up.trans hu6.out u7)
        clear u7
        go_wp2_with fail
        refine ⟨⟨i + 1, by omega, by go_num, ?_, HU7⟩, by simp [intOf]; omega⟩
        show _ = _
        rw [HSTEP.out]
        first | rfl | go_num
      · have him : i = m := by omega
        subst him
        have hfin : depthEls (els.take i) = depthEls els := by rw [HMM.out, List.take_length]
        rw [hfin] at hdb
        rw [hfin]
        clear hfin
        obtain ⟨dd, hdd⟩ : ∃ dd, dd = depthEls els := ⟨_, rfl⟩
        rw [← hdd] at hdb
        rw [← hdd]
        have HDD := Lib.hid hdd
        clear hdd
        go_wp2_with fail
        go_ret2
        refine ⟨?_, HU.out⟩
        rw [← HDD.out]
        rfl

end Go.Proofs.YtmifpokafaiebaaDoor
