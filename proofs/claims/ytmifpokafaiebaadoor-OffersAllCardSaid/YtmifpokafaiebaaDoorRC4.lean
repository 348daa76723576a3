/- THE REFERENCE CODEC acequiaref01: Formed, Depth, Check, Encode. -/
import Derived.Test.YtmifpokafaiebaaDoorRC3
namespace Go.Proofs.YtmifpokafaiebaaDoor
open Go.RowKit
set_option linter.unusedVariables false
set_option maxRecDepth 100000

theorem rc_formedI (n : Int) (w : World) : Calls Tryd.prog 63 #[.agg (vCells 1 n ⟨#[]⟩ (.slice none 0 0))] w fun r w' => r = .returned (.bool true) ∧ Up w w' := by
  unfold vCells
  go_enter Tryd.func63, Tryd.ntmps63
  go_wp2
  go_ret
  exact ⟨rfl, (Up.refl w).alloc _⟩

theorem rc_formedT (s : ByteArray) (w : World) : Calls Tryd.prog 63 #[.agg (vCells 2 0 s (.slice none 0 0))] w fun r w' => r = .returned (.bool true) ∧ Up w w' := by
  unfold vCells
  go_enter Tryd.func63, Tryd.ntmps63
  go_wp2
  go_ret
  exact ⟨rfl, (Up.refl w).alloc _⟩

theorem rc_depth0 (k n : Int) (s : ByteArray) (l : Value) (w : World) (hk : k ≠ 3) : Calls Tryd.prog 64 #[.agg (vCells k n s l)] w fun r w' => r = .returned (.int .i64 0) ∧ Up w w' := by
  unfold vCells
  have hk' : (k == 3) = false := by rw [beq_eq_false_iff_ne]; exact hk
  go_enter Tryd.func64, Tryd.ntmps64
  go_wp2
  go_ret
  exact ⟨rfl, (Up.refl w).alloc _⟩

/-- what the reference's Formed and Depth say of a value, in every world with more blocks -/
def FormR (w0 : World) (el : El) : Prop := ∀ W : World, Up w0 W →
  Calls Tryd.prog 63 #[.agg el.x] W (fun r W' => r = .returned (.bool true) ∧ Up W W') ∧
  Calls Tryd.prog 64 #[.agg el.x] W (fun r W' => r = .returned (.int .i64 el.d) ∧ Up W W')
theorem elIt_formR (w0 : World) (x : Enc.It) : FormR w0 (elIt x) := by
  intro W _
  cases x with
  | inl n => exact ⟨rc_formedI n W, rc_depth0 1 n _ _ W (by omega)⟩
  | inr s => exact ⟨rc_formedT s W, rc_depth0 2 0 s _ W (by omega)⟩

set_option maxRecDepth 100000 in
set_option maxHeartbeats 1000000 in
theorem rc_formedL (p : Option Addr) (cap : Nat) (els : List El) (w0 w : World) (hels : ∀ el ∈ els, FormR w0 el) (hmem : Els w0 p els) (hlen : els.length ≤ 65536) (hup : Up w0 w) :
    Calls Tryd.prog 63 #[.agg (vCells 3 0 ⟨#[]⟩ (.slice p els.length cap))] w fun e w' => e = .returned (.bool true) ∧ Up w w' := by
  have HUP := Lib.hid hup
  have HM := Lib.hid hmem
  have HE := Lib.hid hels
  clear hup hmem hels
  obtain ⟨m, hm⟩ : ∃ m, m = els.length := ⟨_, rfl⟩
  rw [← hm] at hlen
  rw [← hm]
  have HMM := Lib.hid hm
  clear hm
  unfold vCells
  obtain ⟨bt, hbt⟩ : ∃ b, b = w.heap.size := ⟨_, rfl⟩
  go_enter Tryd.func63, Tryd.ntmps63
  go_wp2_with fail
  refine wp_named ?_
  intro W1 hW1
  rw [← hbt]
  have HX1 : Hid (W1.heap[bt]? = some (.cells #[.int .i64 3, .int .i64 0, .string ⟨#[]⟩, .slice p m cap] 64 (0, 0))) := by show _ = _; rw [hW1, heap_new hbt]
  have U1 : Hid (Up w W1) := by show Up w W1; rw [hW1]; exact (Up.refl w).alloc _
  clear hW1 hbt
  go_loopw [3] (fun vi wq => ∃ i : Nat, i ≤ m ∧ vi = .int .i64 i ∧ Hid (Up w wq) ∧ Hid (wq.heap[bt]? = some (.cells #[.int .i64 3, .int .i64 0, .string ⟨#[]⟩, .slice p m cap] 64 (0, 0))))
    (fun vi _ => m - (intOf vi).toNat)
  case atStart => exact ⟨0, by omega, rfl, U1, HX1⟩
  case round =>
    clear U1 HX1
    obtain ⟨i, hi, rfl, HU, HX⟩ := hrel
    have q0 : wr.cell? ⟨bt, 1, none⟩ = some (.int .i64 0) := by rw [cell_of_row wr bt 1 _ _ _ HX.out]; rfl
    have q2 : wr.cell? ⟨bt, 2, none⟩ = some (.string ⟨#[]⟩) := by rw [cell_of_row wr bt 2 _ _ _ HX.out]; rfl
    have q3 : wr.cell? ⟨bt, 3, none⟩ = some (.slice p m cap) := by rw [cell_of_row wr bt 3 _ _ _ HX.out]; rfl
    by_cases hlt : i < m
    · have hi2 : i < els.length := by rw [← HMM.out]; exact hlt
      obtain ⟨bb, o, hp, hcells⟩ := HM.out (fun e => by rw [e] at hi2; simp at hi2)
      obtain ⟨c0, c1, c2, c3⟩ := hcells i hi2
      have hen := HE.out els[i] (List.getElem_mem hi2)
      have hu0 : Up w0 wr := Up.trans HUP.out HU.out
      have hc : ∀ j v, w0.cell? ⟨bb, j, none⟩ = some v → wr.cell? ⟨bb, j, none⟩ = some v := fun j v h =>
        (hu0.below.cell (p := ⟨bb, j, none⟩) (block_lt_of_cell h)).trans h
      replace c0 := hc _ _ c0
      replace c1 := hc _ _ c1
      replace c2 := hc _ _ c2
      replace c3 := hc _ _ c3
      obtain ⟨el, hel⟩ : ∃ el, el = els[i] := ⟨_, rfl⟩
      rw [← hel] at c0 c1 c2 c3 hen
      obtain ⟨k, n', s', lp', ln', lc', d', e'⟩ := el
      simp only at c0 c1 c2 c3 hen
      have HF : Hid (Calls Tryd.prog 63 #[.agg #[.int .i64 k, .int .i64 n', .string s', .slice lp' ln' lc']] wr fun r W' => r = .returned (.bool true) ∧ Up wr W') := (hen wr hu0).1
      subst hp
      clear hu0 hen hcells hc hel hi2
      go_wp2_with fail
      refine (HF.out).mono ?_
      rintro r w5 ⟨rfl, u5⟩
      have HU5 : Hid (Up w w5) := Up.trans HU.out u5
      have HX5 : Hid (w5.heap[bt]? = some (.cells #[.int .i64 3, .int .i64 0, .string ⟨#[]⟩, .slice _ m cap] 64 (0, 0))) := (u5.block bt (lt_of_block HX.out)).trans HX.out
      clear u5 c0 c1 c2 c3 q0 q2 q3
      go_wp2_with fail
      exact ⟨⟨i + 1, by omega, by go_num, HU5, HX5⟩, by simp [intOf]; omega⟩
    · have him : i = m := by omega
      subst him
      go_wp2_with fail
      go_ret
      exact ⟨rfl, HU.out⟩

set_option maxRecDepth 100000 in
set_option maxHeartbeats 1000000 in
theorem rc_depthL (p : Option Addr) (cap : Nat) (els : List El) (w0 w : World) (hels : ∀ el ∈ els, FormR w0 el ∧ el.d ≤ 100) (hmem : Els w0 p els) (hlen : els.length ≤ 65536) (hup : Up w0 w) :
    Calls Tryd.prog 64 #[.agg (vCells 3 0 ⟨#[]⟩ (.slice p els.length cap))] w fun e w' => e = .returned (.int .i64 (depthEls els + 1 : Nat)) ∧ Up w w' := by
  have HUP := Lib.hid hup
  have HM := Lib.hid hmem
  have HE := Lib.hid hels
  clear hup hmem hels
  obtain ⟨m, hm⟩ : ∃ m, m = els.length := ⟨_, rfl⟩
  rw [← hm] at hlen
  rw [← hm]
  have HMM := Lib.hid hm
  clear hm
  unfold vCells
  obtain ⟨bt, hbt⟩ : ∃ b, b = w.heap.size := ⟨_, rfl⟩
  go_enter Tryd.func64, Tryd.ntmps64
  go_wp2_with fail
  refine wp_named ?_
  intro W1 hW1
  rw [← hbt]
  have HX1 : Hid (W1.heap[bt]? = some (.cells #[.int .i64 3, .int .i64 0, .string ⟨#[]⟩, .slice p m cap] 64 (0, 0))) := by show _ = _; rw [hW1, heap_new hbt]
  have U1 : Hid (Up w W1) := by show Up w W1; rw [hW1]; exact (Up.refl w).alloc _
  clear hW1 hbt
  go_loopw [3, 4] (fun vd vi wq => ∃ i : Nat, i ≤ m ∧ vi = .int .i64 i ∧ Hid (vd = .int .i64 (depthEls (els.take i) : Nat)) ∧ Hid (Up w wq) ∧ Hid (wq.heap[bt]? = some (.cells #[.int .i64 3, .int .i64 0, .string ⟨#[]⟩, .slice p m cap] 64 (0, 0))))
    (fun _ vi _ => m - (intOf vi).toNat)
  case atStart => exact ⟨0, by omega, rfl, rfl, U1, HX1⟩
  case round =>
    clear U1 HX1
    obtain ⟨i, hi, rfl, hvd, HU, HX⟩ := hrel
    obtain rfl := hvd.out
    clear hvd
    have hdb : depthEls (els.take i) ≤ 100 := depthEls_le _ 100 fun el hel => (HE.out el (List.mem_of_mem_take hel)).2
    have q3 : wr.cell? ⟨bt, 3, none⟩ = some (.slice p m cap) := by rw [cell_of_row wr bt 3 _ _ _ HX.out]; rfl
    by_cases hlt : i < m
    · have hi2 : i < els.length := by rw [← HMM.out]; exact hlt
      obtain ⟨bb, o, hp, hcells⟩ := HM.out (fun e => by rw [e] at hi2; simp at hi2)
      obtain ⟨c0, c1, c2, c3⟩ := hcells i hi2
      have hen := HE.out els[i] (List.getElem_mem hi2)
      have hu0 : Up w0 wr := Up.trans HUP.out HU.out
      have hc : ∀ j v, w0.cell? ⟨bb, j, none⟩ = some v → wr.cell? ⟨bb, j, none⟩ = some v := fun j v h =>
        (hu0.below.cell (p := ⟨bb, j, none⟩) (block_lt_of_cell h)).trans h
      replace c0 := hc _ _ c0
      replace c1 := hc _ _ c1
      replace c2 := hc _ _ c2
      replace c3 := hc _ _ c3
      have hstep : depthEls (els.take (i + 1)) = max (depthEls (els.take i)) els[i].d := by
        rw [List.take_succ_eq_append_getElem hi2, depthEls_snoc]
      obtain ⟨el, hel⟩ : ∃ el, el = els[i] := ⟨_, rfl⟩
      rw [← hel] at c0 c1 c2 c3 hen hstep
      obtain ⟨k, n', s', lp', ln', lc', d', e'⟩ := el
      simp only at c0 c1 c2 c3 hen hstep
      have HF : Hid (Calls Tryd.prog 64 #[.agg #[.int .i64 k, .int .i64 n', .string s', .slice lp' ln' lc']] wr fun r W' => r = .returned (.int .i64 d') ∧ Up wr W') := (hen.1 wr hu0).2
      have hd100 : d' ≤ 100 := hen.2
      have HSTEP := Lib.hid hstep
      subst hp
      obtain ⟨dd, hdd⟩ : ∃ dd, dd = depthEls (els.take i) := ⟨_, rfl⟩
      rw [← hdd] at hdb HSTEP
      rw [← hdd]
      clear hu0 hen hcells hc hel hi2 hstep hdd
      go_wp2_with fail
      refine (HF.out).mono ?_
      rintro r w5 ⟨rfl, u5⟩
      have HU5 : Hid (Up w w5) := Up.trans HU.out u5
      have HX5 : Hid (w5.heap[bt]? = some (.cells #[.int .i64 3, .int .i64 0, .string ⟨#[]⟩, .slice _ m cap] 64 (0, 0))) := (u5.block bt (lt_of_block HX.out)).trans HX.out
      clear u5 c0 c1 c2 c3 q3
      go_wp2_with fail
      refine ⟨⟨i + 1, by omega, by go_num, ?_, HU5, HX5⟩, by simp [intOf]; omega⟩
      show Value.int _ _ = Value.int _ _
      rw [HSTEP.out]
      congr 1
      split <;> omega
    · have him : i = m := by omega
      subst him
      have hfin : depthEls (els.take i) = depthEls els := by rw [HMM.out, List.take_length]
      rw [hfin] at hdb
      rw [hfin]
      clear hfin
      obtain ⟨dd, hdd⟩ : ∃ dd, dd = depthEls els := ⟨_, rfl⟩
      rw [← hdd] at hdb
      rw [← hdd]
      have HDD := Lib.hid hdd
      clear hdd
      go_wp2_with fail
      go_ret
      refine ⟨?_, HU.out⟩
      rw [← HDD.out]
      rfl

set_option maxRecDepth 100000 in
theorem rc_checkL (p : Option Addr) (cap : Nat) (els : List El) (w0 w : World) (hels : ∀ el ∈ els, FormR w0 el ∧ el.d ≤ 15) (hmem : Els w0 p els) (hlen : els.length ≤ 65536) (hup : Up w0 w) :
    Calls Tryd.prog 49 #[.agg (vCells 3 0 ⟨#[]⟩ (.slice p els.length cap))] w fun e w' => e = .returned (.int .i64 0) ∧ Up w w' := by
  have F := Lib.hid fun w (h : Up w0 w) => rc_formedL p cap els w0 w (fun el h => (hels el h).1) hmem hlen h
  have D := Lib.hid fun w (h : Up w0 w) => rc_depthL p cap els w0 w (fun el h => ⟨(hels el h).1, by have := (hels el h).2; omega⟩) hmem hlen h
  have hd := depthEls_le els 15 fun el h => (hels el h).2
  obtain ⟨d, hdd⟩ : ∃ d, d = depthEls els := ⟨_, rfl⟩
  rw [← hdd] at D hd
  have HUP := Lib.hid hup
  obtain ⟨m, hm⟩ : ∃ m, m = els.length := ⟨_, rfl⟩
  rw [← hm] at F D
  rw [← hm]
  unfold vCells at F D
  unfold vCells
  clear hels hmem hlen hup hm hdd
  obtain ⟨bt, hbt⟩ : ∃ b, b = w.heap.size := ⟨_, rfl⟩
  go_enter Tryd.func49, Tryd.ntmps49
  go_wp2_with fail
  refine calls_nm ?_
  intro W1 hW1
  rw [← hbt]
  have HX1 : Hid (W1.heap[bt]? = some (.cells #[.int .i64 3, .int .i64 0, .string ⟨#[]⟩, .slice p m cap] 64 (0, 0))) := by show _ = _; rw [hW1, heap_new hbt]
  have U1 : Hid (Up w W1) := by show Up w W1; rw [hW1]; exact (Up.refl w).alloc _
  clear hW1 hbt
  refine (F.out _ (Up.trans HUP.out U1.out)).mono ?_
  rintro e w2 ⟨rfl, u2⟩
  have HX2 : Hid (w2.heap[bt]? = some (.cells #[.int .i64 3, .int .i64 0, .string ⟨#[]⟩, .slice p m cap] 64 (0, 0))) := (u2.block bt (lt_of_block HX1.out)).trans HX1.out
  have U2 : Hid (Up w w2) := Up.trans U1.out u2
  have q0 : w2.cell? ⟨bt, 0, none⟩ = some (.int .i64 3) := by rw [cell_of_row w2 bt 0 _ _ _ HX2.out]; rfl
  have q1 : w2.cell? ⟨bt, 1, none⟩ = some (.int .i64 0) := by rw [cell_of_row w2 bt 1 _ _ _ HX2.out]; rfl
  have q2 : w2.cell? ⟨bt, 2, none⟩ = some (.string ⟨#[]⟩) := by rw [cell_of_row w2 bt 2 _ _ _ HX2.out]; rfl
  have q3 : w2.cell? ⟨bt, 3, none⟩ = some (.slice p m cap) := by rw [cell_of_row w2 bt 3 _ _ _ HX2.out]; rfl
  clear u2
  go_wp2_with fail
  refine (D.out _ (Up.trans HUP.out U2.out)).mono ?_
  rintro e w3 ⟨rfl, u3⟩
  have U3 : Hid (Up w w3) := Up.trans U2.out u3
  clear u3
  go_wp2_with fail
  go_ret
  exact ⟨rfl, U3.out⟩

set_option maxRecDepth 100000 in
theorem rc_encodeL (p : Option Addr) (cap : Nat) (els : List El) (w : World) (hels : ∀ el ∈ els, EncAs w el ∧ FormR w el ∧ el.d ≤ 15) (hmem : Els w p els) (hlen : els.length ≤ 65536) (htot : (encEls els).length ≤ 268435456) :
    Calls Tryd.prog 30 #[.agg (vCells 3 0 ⟨#[]⟩ (.slice p els.length cap))] w fun e w' => ∃ v', e = .returned (.tuple #[v', .int .i64 0]) ∧ Own w' w.heap.size v' (3 :: (Enc.num els.length ++ encEls els)) ∧ Up w w' := by
  have K := Lib.hid fun w' (h : Up w w') => rc_checkL p cap els w w' (fun el h => (hels el h).2) hmem hlen h
  have E := Lib.hid fun w' (h : Up w w') => rc_encL p cap els w w' (fun el h => (hels el h).1) hmem hlen htot h
  generalize (3 :: (Enc.num els.length ++ encEls els)) = R at E
  obtain ⟨m, hm⟩ : ∃ m, m = els.length := ⟨_, rfl⟩
  rw [← hm] at K E
  rw [← hm]
  unfold vCells at K E
  unfold vCells
  clear hels hmem hlen htot hm
  obtain ⟨bt, hbt⟩ : ∃ b, b = w.heap.size := ⟨_, rfl⟩
  go_enter Tryd.func30, Tryd.ntmps30
  go_wp2_with fail
  refine calls_nm ?_
  intro W1 hW1
  rw [← hbt]
  have HX1 : Hid (W1.heap[bt]? = some (.cells #[.int .i64 3, .int .i64 0, .string ⟨#[]⟩, .slice p m cap] 64 (0, 0))) := by show _ = _; rw [hW1, heap_new hbt]
  have U1 : Hid (Up w W1) := by show Up w W1; rw [hW1]; exact (Up.refl w).alloc _
  clear hW1 hbt
  refine (K.out _ U1.out).mono ?_
  rintro e w2 ⟨rfl, u2⟩
  have HX2 : Hid (w2.heap[bt]? = some (.cells #[.int .i64 3, .int .i64 0, .string ⟨#[]⟩, .slice p m cap] 64 (0, 0))) := (u2.block bt (lt_of_block HX1.out)).trans HX1.out
  have U2 : Hid (Up w w2) := Up.trans U1.out u2
  have q0 : w2.cell? ⟨bt, 0, none⟩ = some (.int .i64 3) := by rw [cell_of_row w2 bt 0 _ _ _ HX2.out]; rfl
  have q1 : w2.cell? ⟨bt, 1, none⟩ = some (.int .i64 0) := by rw [cell_of_row w2 bt 1 _ _ _ HX2.out]; rfl
  have q2 : w2.cell? ⟨bt, 2, none⟩ = some (.string ⟨#[]⟩) := by rw [cell_of_row w2 bt 2 _ _ _ HX2.out]; rfl
  have q3 : w2.cell? ⟨bt, 3, none⟩ = some (.slice p m cap) := by rw [cell_of_row w2 bt 3 _ _ _ HX2.out]; rfl
  clear u2
  go_wp2_with fail
  refine (E.out _ U2.out).mono ?_
  rintro e w3 ⟨v3, rfl, ho3, u3⟩
  have O3 := Lib.hid (ho3.less U2.out.size)
  have U3 : Hid (Up w w3) := Up.trans U2.out u3
  clear u3 ho3
  go_wp2_with fail
  go_ret2
  exact ⟨_, rfl, O3.out, U3.out⟩

theorem rc_encodeIts (base : Nat) (v : Value) (xs : List Enc.It) (w : World) (ho : OwnV w base v (xs.map elIt)) (hok : ∀ x ∈ xs, x.ok) (hlen : xs.length ≤ 65536) (htot : (xs.map Enc.encIt).flatten.length ≤ 268435456) :
    Calls Tryd.prog 30 #[.agg #[.int .i64 3, .int .i64 0, .string ⟨#[]⟩, v]] w fun e w' => ∃ v', e = .returned (.tuple #[v', .int .i64 0]) ∧ Own w' w.heap.size v' (encIts xs) ∧ Up w w' := by
  obtain ⟨p, c, rfl, hels, hlow⟩ := ho.form
  have := rc_encodeL p c (xs.map elIt) w (fun el hel => by
    obtain ⟨x, hx, rfl⟩ := List.mem_map.1 hel
    exact ⟨elIt_encAs w x (hok x hx), elIt_formR w x, by cases x <;> exact Nat.zero_le _⟩) hels (by simpa using hlen) (by rw [encEls, els_map]; exact htot)
  rw [encEls, els_map, List.length_map] at this
  unfold vCells at this
  rw [List.length_map]
  have e : encIts xs = 3 :: (Enc.num xs.length ++ (xs.map Enc.encIt).flatten) := by rw [encIts, Enc.encL, List.length_map]
  rw [e]
  exact this

end Go.Proofs.YtmifpokafaiebaaDoor
