/- THE WALKS OF slices.Grow AND slices.Concat. -/
import Derived.Test.YtmifpokafaiebaaDoorCatG
namespace Go.Proofs.YtmifpokafaiebaaDoor
open Go.RowKit
set_option linter.unusedVariables false

set_option maxRecDepth 100000 in
set_option maxHeartbeats 1000000 in
theorem grow_calls (n : Nat) (w : World) (hn : n ≤ 4096) (h0 : 0 < n) :
    Calls Tryd.prog 56 #[.slice none 0 0, .int .i64 n] w fun e w' => ∃ cap : Nat, n ≤ cap ∧ cap ≤ maxLen ∧ e = .returned (.slice (some ⟨w.heap.size, 0, none⟩) 0 cap) ∧
      Up w w' ∧ w'.heap[w.heap.size]? = some (.cells (u8s (List.replicate cap 0)).toArray 5 (0, 0)) := by
  obtain ⟨cap, hcap⟩ : ∃ cap, cap = grownCap w n 0 5 := ⟨_, rfl⟩
  obtain ⟨W5, hW5⟩ : ∃ W5, W5 = (w.drew.alloc (.cells (Builtin.zeroCells (Value.int .u8 0).cells n ++ Builtin.zeroCells (Value.int .u8 0).cells (cap - n)) 5 (0, 0))) := ⟨_, rfl⟩
  have hmk : Sem.run Tryd.prog (Builtin.append_ #[27, 3] 27 #[.slice none 0 0, .int .i64 n]) w = .ok (.slice (some ⟨w.heap.size, 0, none⟩) n cap) W5 := by
    rw [hW5, hcap]
    exact run_append_zeros w 27 3 27 5 _ _ _ rfl rfl rfl rfl rfl rfl rfl n h0 hn
  go_enter Tryd.func56, Tryd.ntmps56
  have hn0 : (0 : Int) ≤ n := by omega
  have h0' : (0 : Int) < n := by omega
  have hge : n ≤ cap := by rw [hcap]; exact grownCap_ge _ _ _ _
  have hle : cap ≤ maxLen := by rw [hcap]; exact grownCap_le_maxLen _ _ _ _ (by unfold maxLen; omega)
  have hz : W5.heap[w.heap.size]? = some (.cells (u8s (List.replicate cap 0)).toArray 5 (0, 0)) := by
    rw [hW5, heap_new (show w.heap.size = w.drew.heap.size from rfl), ← mk_zeros cap, Nat.mul_one]
    congr 2
    exact zeros_join n cap hge
  have hup : Up w W5 := by rw [hW5]; exact ((Up.refl w).drew).alloc _
  have HZ := Lib.hid hz
  clear hW5 hcap hz
  go_wp2_with (at_builtin; refine wpList_append_run rfl (.tmp 20) (.tmp 21) 27 3 rfl _ _ _ W5 rfl rfl hmk ?_)
  go_ret
  exact ⟨cap, hge, hle, rfl, hup, HZ.out⟩


set_option maxRecDepth 100000 in
set_option maxHeartbeats 1000000 in
theorem concat_calls (p1 p2 : Option Addr) (c1 c2 bs : Nat) (tS : TypeId) (l1 l2 : List UInt8) (w : World) (h1 : l1.length ≤ 32) (h10 : 0 < l1.length) (h2 : l2.length ≤ 2000) (hb1 : SB w p1 l1) (hb2 : SB w p2 l2)
    (hs : w.heap[bs]? = some (.cells #[.slice p1 l1.length c1, .slice p2 l2.length c2] tS (0, 0))) :
    Calls Tryd.prog 46 #[.slice (some ⟨bs, 0, none⟩) 2 2] w fun e w' => ∃ B cap : Nat, l1.length + l2.length ≤ cap ∧ cap ≤ maxLen ∧ e = .returned (.slice (some ⟨B, 0, none⟩) (l1.length + l2.length) cap) ∧
      Up w w' ∧ Bs w' B 0 (l1 ++ l2) := by
  have e0 : w.cell? ⟨bs, 0, none⟩ = some (.slice p1 l1.length c1) := by rw [cell_of_row w bs 0 _ _ _ hs]; rfl
  have e1 : w.cell? ⟨bs, 1, none⟩ = some (.slice p2 l2.length c2) := by rw [cell_of_row w bs 1 _ _ _ hs]; rfl
  have HB1 := Lib.hid hb1
  have HB2 := Lib.hid hb2
  have HS := Lib.hid hs
  clear hb1 hb2 hs
  obtain ⟨n1, hn1⟩ : ∃ n, n = l1.length := ⟨_, rfl⟩
  obtain ⟨n2, hn2⟩ : ∃ n, n = l2.length := ⟨_, rfl⟩
  rw [← hn1] at h1 h10 e0
  rw [← hn2] at h2 e1
  rw [← hn1, ← hn2]
  have HN1 := Lib.hid hn1
  have HN2 := Lib.hid hn2
  clear hn1 hn2
  go_enter Tryd.func46, Tryd.ntmps46
  go_wp2_with fail
  go_loopw [3, 5, 11] (fun sz _ i wq => wq = w ∧ ((sz = .int .i64 0 ∧ i = .int .i64 0) ∨ (sz = .int .i64 n1 ∧ i = .int .i64 1) ∨ (sz = .int .i64 (n1 + n2) ∧ i = .int .i64 2)))
    (fun _ _ i _ => 2 - (intOf i).toNat)
  case atStart => exact ⟨rfl, .inl ⟨rfl, rfl⟩⟩
  case round =>
    obtain ⟨rfl, hr⟩ := hrel
    rcases hr with ⟨rfl, rfl⟩ | ⟨rfl, rfl⟩ | ⟨rfl, rfl⟩
    · go_wp2_with fail
      exact ⟨⟨trivial, .inr (.inl ⟨rfl, rfl⟩)⟩, by simp [intOf]⟩
    · go_wp2_with fail
      exact ⟨⟨trivial, .inr (.inr ⟨rfl, rfl⟩)⟩, by simp [intOf]⟩
    · have hpos : (0 : Int) < (n1 : Int) + n2 := by omega
      go_wp2_with fail
      rw [show ((n1 : Int) + (n2 : Int)) = ((n1 + n2 : Nat) : Int) by push_cast; rfl]
      refine (grow_calls (n1 + n2) wr (by omega) (by omega)).mono ?_
      rintro e w3 ⟨cap, hge, hle, rfl, u3, h3⟩
      obtain ⟨B, hB⟩ : ∃ B, B = wr.heap.size := ⟨_, rfl⟩
      rw [← hB] at h3
      rw [← hB]
      have H3 := Lib.hid h3
      have HB := Lib.hid hB
      clear h3 hB
      go_wp2_with fail
      have H30 : Hid (w3.heap[B]? = some (.cells (u8s ([] ++ List.replicate (cap - 0) 0)).toArray 5 (0, 0))) := H3.out
      have KEPT : Hid (∀ wq, Chg (· = B) w3 wq → ∀ b, b < wr.heap.size → wq.heap[b]? = wr.heap[b]?) := fun wq hq b hb =>
        (hq.block b (Nat.lt_of_lt_of_le hb u3.size) (by show ¬ b = B; have := HB.out; omega)).trans (u3.block b hb)
      go_loopw [6, 8, 27] (fun ns _ i wq => Hid (Chg (· = B) w3 wq) ∧
          ((ns = .slice (some ⟨B, 0, none⟩) 0 cap ∧ i = .int .i64 0 ∧ Hid (wq.heap[B]? = some (.cells (u8s ([] ++ List.replicate (cap - 0) 0)).toArray 5 (0, 0)))) ∨
           (ns = .slice (some ⟨B, 0, none⟩) n1 cap ∧ i = .int .i64 1 ∧ Hid (wq.heap[B]? = some (.cells (u8s (l1 ++ List.replicate (cap - n1) 0)).toArray 5 (0, 0)))) ∨
           (ns = .slice (some ⟨B, 0, none⟩) (n1 + n2) cap ∧ i = .int .i64 2 ∧ Hid (wq.heap[B]? = some (.cells (u8s ((l1 ++ l2) ++ List.replicate (cap - (n1 + n2)) 0)).toArray 5 (0, 0))))))
        (fun _ _ i _ => 2 - (intOf i).toNat)
      case atStart => exact ⟨Chg.refl _ _, .inl ⟨rfl, rfl, H30⟩⟩
      case round =>
        obtain ⟨hcq, hr⟩ := hrel
        rcases hr with ⟨rfl, rfl, hh⟩ | ⟨rfl, rfl, hh⟩ | ⟨rfl, rfl, hh⟩
        · have hk := KEPT.out _ hcq.out
          obtain ⟨w5, hrun, hh5, hc5⟩ := append_room _ B cap c1 [] l1 p1 (HB1.out.kept hk) hh.out (by rw [← HN1.out]; simp; omega)
          have e0' := (World.cell?_of_block (a := ⟨bs, 0, none⟩) (hk bs (lt_of_block HS.out))).trans e0
          rw [← HN1.out] at hrun
          rw [List.nil_append, ← HN1.out] at hh5
          rw [List.length_nil, Nat.zero_add] at hrun
          have HH5 := Lib.hid hh5
          have HC5 : Hid (Chg (· = B) w3 w5) := hcq.out.trans hc5
          clear hh5 hc5 hcq hh hk
          go_wp2_with (at_builtin; refine wpList_append_run rfl (.tmp 31) (.tmp 32) 27 27 rfl _ _ _ w5 rfl rfl hrun ?_)
          exact ⟨⟨HC5, .inr (.inl ⟨rfl, rfl, HH5⟩)⟩, by simp [intOf]⟩
        · have hk := KEPT.out _ hcq.out
          obtain ⟨w5, hrun, hh5, hc5⟩ := append_room _ B cap c2 l1 l2 p2 (HB2.out.kept hk) (by rw [← HN1.out]; exact hh.out) (by rw [← HN1.out, ← HN2.out]; omega)
          have e1' := (World.cell?_of_block (a := ⟨bs, 1, none⟩) (hk bs (lt_of_block HS.out))).trans e1
          rw [← HN1.out, ← HN2.out] at hrun
          rw [List.length_append, ← HN1.out, ← HN2.out] at hh5
          have HH5 := Lib.hid hh5
          have HC5 : Hid (Chg (· = B) w3 w5) := hcq.out.trans hc5
          clear hh5 hc5 hcq hh hk
          go_wp2_with (at_builtin; refine wpList_append_run rfl (.tmp 31) (.tmp 32) 27 27 rfl _ _ _ w5 rfl rfl hrun ?_)
          exact ⟨⟨HC5, .inr (.inr ⟨rfl, rfl, HH5⟩)⟩, by simp [intOf]⟩
        · go_wp2_with fail
          go_ret
          refine ⟨B, cap, by omega, hle, rfl, ?_, ?_⟩
          · exact ⟨hcq.out.os.trans u3.os, hcq.out.tape.trans u3.tape, hcq.out.output.trans u3.output, Nat.le_trans u3.size hcq.out.size, fun b hb => KEPT.out _ hcq.out b hb⟩
          · exact Bs.of_row (l := []) (r := (l1 ++ l2) ++ List.replicate (cap - (n1 + n2)) 0) hh.out (List.prefix_append _ _) rfl


end Go.Proofs.YtmifpokafaiebaaDoor
