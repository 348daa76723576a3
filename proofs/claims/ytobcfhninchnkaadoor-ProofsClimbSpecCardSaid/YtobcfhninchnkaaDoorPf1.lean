/- THE WALK OF proofs.text. -/
import Derived.Test.YtobcfhninchnkaaDoorVal
namespace Go.Proofs.YtobcfhninchnkaaDoor
open Go.RowKit
set_option linter.unusedVariables false
set_option maxRecDepth 100000

/-- an argument of text: an integer, or a text -/
def PArg (v : Value) : Enc.It → Prop
  | .inl n => v = .iface 3 (.int .i64 n)
  | .inr s => v = .iface 9 (.string s)

theorem run_bytes_string (w : World) (p : Option Addr) (c : Nat) (s : ByteArray) (h : SB w p s.data.toList) :
    (convert 45 9 (.slice p s.size c)).run Tryd.prog w = .ok (.string s) w := by
  have hsl : s.data.toList.length = s.size := by rw [Array.length_toList]; rfl
  cases p with
  | none =>
    have hn : s.data.toList = [] := by
      rcases Classical.em (s.data.toList = []) with h1 | h1
      · exact h1
      · obtain ⟨b, o, e, _⟩ := h h1; cases e
    have h0 : s.size = 0 := by rw [← hsl, hn]; rfl
    have hs : s = ⟨#[]⟩ := by
      cases s with | mk d => congr 1; exact Array.toList_inj.1 (by simpa using hn)
    rw [h0, hs]
    exact Lib.run_convert_nil_bytes w _ _ 5 c rfl rfl rfl
  | some a =>
    have := run_convert_bytes_back (P := Tryd.prog) w 45 9 5 a c s.data.toList rfl rfl rfl (fun j hj => by
      obtain ⟨b, o, e, hB⟩ := h (fun e => by rw [e] at hj; simp at hj)
      injection e with e
      subst e
      have := hB j hj
      have e2 : (Addr.add ⟨b, o, none⟩ j) = ⟨b, o + j, none⟩ := by simp [Addr.add]
      rw [e2]; exact this)
    rw [hsl] at this
    simpa using this

set_option maxRecDepth 100000 in
set_option maxHeartbeats 1000000 in
theorem ptext_calls (ba k : Nat) (xs : List Enc.It) (w : World) (hk : k = xs.length) (hk2 : k ≤ 100) (hok : ∀ x ∈ xs, x.ok) (hargs : ∀ i (h : i < xs.length), ∃ v, w.cell? ⟨ba, i, none⟩ = some v ∧ PArg v xs[i]) (htot : (xs.map Enc.encIt).flatten.length ≤ 268435456) :
    Calls Tryd.prog 68 #[.slice (some ⟨ba, 0, none⟩) k k] w fun e w' => ∃ v', e = .returned v' ∧ Own w' w.heap.size v' (encIts xs) ∧ Up w w' := by
  have HK := Lib.hid hk
  have HOK := Lib.hid hok
  have HA := Lib.hid hargs
  have HT := Lib.hid htot
  have ta1 : ∀ (n : Int) (w : World), (Instr.typeAssert (.iface 3 (.int .i64 n)) 20 9 true).run Tryd.prog w = .ok (.tuple #[.string ⟨#[]⟩, .bool false]) w := fun n w => by kernel_rfl
  have ta2 : ∀ (n : Int) (w : World), (Instr.typeAssert (.iface 3 (.int .i64 n)) 20 3 true).run Tryd.prog w = .ok (.tuple #[.int .i64 n, .bool true]) w := fun n w => by kernel_rfl
  have ta3 : ∀ (s : ByteArray) (w : World), (Instr.typeAssert (.iface 9 (.string s)) 20 9 true).run Tryd.prog w = .ok (.tuple #[.string s, .bool true]) w := fun s w => by kernel_rfl
  clear hk hok hargs htot
  go_enter Tryd.func68, Tryd.ntmps68
  go_wp2_with fail
  refine wp_named ?_
  intro W1 hW1
  obtain ⟨bt, hbt⟩ : ∃ bt, bt = w.heap.size := ⟨_, rfl⟩
  rw [← hbt]
  have u1 : Up w W1 := by rw [hW1]; exact (Up.refl w).alloc _
  have z1 : W1.heap.size = bt + 1 := by rw [hW1, hbt]; simp
  have h1 : Hid (∃ v, W1.heap[bt]? = some (.cells #[.int .i64 3, .int .i64 0, .string ⟨#[]⟩, v] 85 (0, 0)) ∧ OwnV W1 (bt + 1) v ((xs.take 0).map elIt)) :=
    ⟨.slice none 0 0, by rw [hW1]; exact heap_new hbt, OwnV.nil _ _⟩
  have U1 := Lib.hid u1
  have HBT := Lib.hid hbt
  clear hW1 u1 hbt
  go_loopw [5, 6, 7, 13] (fun _ _ _ vi wq => ∃ i : Nat, i ≤ k ∧ vi = .int .i64 i ∧ Hid (∃ v, wq.heap[bt]? = some (.cells #[.int .i64 3, .int .i64 0, .string ⟨#[]⟩, v] 85 (0, 0)) ∧ OwnV wq (bt + 1) v ((xs.take i).map elIt)) ∧ Hid (Up w wq) ∧ bt + 1 ≤ wq.heap.size)
    (fun _ _ _ vi _ => k - (intOf vi).toNat)
  case atStart => exact ⟨0, by omega, rfl, h1, U1, by omega⟩
  case round =>
    obtain ⟨i, hi, rfl, hV, hU, hz⟩ := hrel
    obtain ⟨v, hv, hown⟩ := hV.out
    have q0 : wr.cell? ⟨bt, 0, none⟩ = some (.int .i64 3) := by rw [cell_of_row wr bt 0 _ _ _ hv]; rfl
    have q1 : wr.cell? ⟨bt, 1, none⟩ = some (.int .i64 0) := by rw [cell_of_row wr bt 1 _ _ _ hv]; rfl
    have q2 : wr.cell? ⟨bt, 2, none⟩ = some (.string ⟨#[]⟩) := by rw [cell_of_row wr bt 2 _ _ _ hv]; rfl
    have q3 : wr.cell? ⟨bt, 3, none⟩ = some v := by rw [cell_of_row wr bt 3 _ _ _ hv]; rfl
    by_cases hlt : i < k
    · have hi2 : i < xs.length := by rw [← HK.out]; exact hlt
      obtain ⟨va, hva, hsa⟩ := HA.out i hi2
      have hcv : wr.cell? ⟨ba, i, none⟩ = some va := (hU.out.below.cell (p := ⟨ba, i, none⟩) (block_lt_of_cell hva)).trans hva
      have hstep : (xs.take (i + 1)).map elIt = (xs.take i).map elIt ++ [elIt xs[i]] := by
        rw [List.take_succ_eq_append_getElem hi2, List.map_append]; rfl
      have hlen : ((xs.take i).map elIt).length ≤ 65535 := by rw [List.length_map]; have := List.length_take_le i xs; omega
      have hnb : v.ownBlock ≠ some bt := fun e => by have := hown.block bt e; omega
      have HV := Lib.hid hv
      have HO := Lib.hid hown
      have HSTEP := Lib.hid hstep
      have HLEN := Lib.hid hlen
      have HNB := Lib.hid hnb
      obtain ⟨x, hx⟩ : ∃ x, x = xs[i] := ⟨_, rfl⟩
      rw [← hx] at hsa HSTEP
      clear hV hv hown hstep hlen hnb hva hx
      -- what is to be shown behind the append
      have FIN : Hid (∀ (v' : Value) (w' : World), OwnV w' (bt + 1) v' ((xs.take i).map elIt ++ [elIt x]) → Below (bt + 1) wr w' → Grow wr w' v v' →
          (∃ old, w'.cell? ⟨bt, 3, none⟩ = some old) ∧ w'.frozen? ⟨bt, 3, none⟩ = false ∧
          (∃ u, (w'.setCell ⟨bt, 3, none⟩ v').heap[bt]? = some (.cells #[.int .i64 3, .int .i64 0, .string ⟨#[]⟩, u] 85 (0, 0)) ∧ OwnV (w'.setCell ⟨bt, 3, none⟩ v') (bt + 1) u ((xs.take (i + 1)).map elIt)) ∧ Up w (w'.setCell ⟨bt, 3, none⟩ v') ∧ bt + 1 ≤ (w'.setCell ⟨bt, 3, none⟩ v').heap.size) := fun v' w' ho hb hg => by
        have hh : w'.heap[bt]? = some (.cells #[.int .i64 3, .int .i64 0, .string ⟨#[]⟩, v] 85 (0, 0)) := (hb.block bt (by omega)).trans HV.out
        refine ⟨⟨v, by rw [cell_of_row w' bt 3 _ _ _ hh]; rfl⟩, free_row hh 3, ⟨v', ?_, ?_⟩, ?_, ?_⟩
        · rw [heap_setCell_same w' bt 3 _ _ _ hh]; rfl
        · rw [HSTEP.out]
          exact ho.kept fun g hg' => heap_setCell_other _ _ _ _ (by show g ≠ bt; have := ho.block g hg'; omega)
        · have hUw : Below (bt + 1) w w' → True := fun _ => trivial
          have a : Up w w' := Below.trans hU.out (hb.mono (by have := HBT.out; omega))
          exact ⟨a.os, a.tape, a.output, by simpa [World.setCell] using a.size, fun j hj => (heap_setCell_other _ _ _ _ (by show j ≠ bt; have := HBT.out; omega)).trans (a.block j hj)⟩
        · have := hb.size; simp [World.setCell]; omega
      cases x with
      | inl n =>
        have hsa' : va = .iface 3 (.int .i64 n) := hsa
        subst hsa'
        go_wp2_with (at_builtin; refine wpList_appV rfl (.tmp 32) (.tmp 35) rfl rfl (bt + 1) _ _ (elIt (.inl n)) _ rfl rfl rfl HO.out HLEN.out hz ?_; intro p' m' c' w' o2 b2 g2; obtain ⟨⟨old, f1⟩, f2, f3, f4, f5⟩ := FIN.out _ w' o2 b2 g2; have F3 := Lib.hid f3; have F4 := Lib.hid f4; have F5 := Lib.hid f5; clear o2 b2 g2 f3 f4 f5)
        exact ⟨⟨i + 1, by omega, by go_num, F3, F4, F5.out⟩, by simp [intOf]; omega⟩
      | inr s =>
        have hva' : va = .iface 9 (.string s) := hsa
        subst hva'
        go_wp2_with (at_builtin; refine wpList_appV rfl (.tmp 22) (.tmp 25) rfl rfl (bt + 1) _ _ (elIt (.inr s)) _ rfl rfl rfl HO.out HLEN.out hz ?_; intro p' m' c' w' o2 b2 g2; obtain ⟨⟨old, f1⟩, f2, f3, f4, f5⟩ := FIN.out _ w' o2 b2 g2; have F3 := Lib.hid f3; have F4 := Lib.hid f4; have F5 := Lib.hid f5; clear o2 b2 g2 f3 f4 f5)
        exact ⟨⟨i + 1, by omega, by go_num, F3, F4, F5.out⟩, by simp [intOf]; omega⟩
    · have him : i = k := by omega
      subst him
      have ho : OwnV wr (bt + 1) v (xs.map elIt) := by
        have := hown
        rw [HK.out, List.take_length] at this
        exact this
      have HE := Lib.hid (encodeIts_calls (bt + 1) v xs wr ho HOK.out (by rw [← HK.out]; omega) HT.out)
      clear hown hV hv ho
      go_wp2_with fail
      refine HE.out.mono ?_
      rintro r w5 ⟨v5, rfl, o5, u5⟩
      have O5 := Lib.hid (o5.less hU.out.size)
      have U5 : Hid (Up w w5) := Up.trans hU.out u5
      clear o5 u5
      go_wp2_with fail
      go_ret
      exact ⟨_, rfl, O5.out, U5.out⟩

end Go.Proofs.YtobcfhninchnkaaDoor
