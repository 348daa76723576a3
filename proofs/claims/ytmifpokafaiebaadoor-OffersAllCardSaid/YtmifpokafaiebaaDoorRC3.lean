/- THE REFERENCE CODEC acequiaref01: encode of a list. -/
import Derived.Test.YtmifpokafaiebaaDoorRC2
namespace Go.Proofs.YtmifpokafaiebaaDoor
open Go.RowKit
set_option linter.unusedVariables false
set_option maxRecDepth 100000

/-- in every world with more blocks than w0 the reference's encode gives its encoding -/
def EncAs (w0 : World) (el : El) : Prop :=
  ∀ W : World, Up w0 W → Calls Tryd.prog 50 #[.agg el.x] W fun r W' => ∃ v', r = .returned v' ∧ Own W' W.heap.size v' el.e ∧ Up W W'
theorem elIt_encAs (w0 : World) (x : Enc.It) (hx : x.ok) : EncAs w0 (elIt x) := by
  intro W _
  cases x with
  | inl n => exact rc_encI n _ _ W hx.1 hx.2
  | inr s => exact rc_encT _ s _ W (by have : s.size ≤ 1048576 := hx; omega)

theorem encEls_snoc (l : List El) (x : El) : encEls (l ++ [x]) = encEls l ++ x.e := by simp [encEls]
theorem encEls_take_le (els : List El) (i : Nat) : (encEls (els.take i)).length ≤ (encEls els).length := by
  have : encEls els = encEls (els.take i) ++ encEls (els.drop i) := by
    rw [encEls, encEls, encEls, ← List.flatten_append, ← List.map_append, List.take_append_drop]
  rw [this, List.length_append]; omega

set_option maxRecDepth 100000 in
set_option maxHeartbeats 1000000 in
theorem rc_encL (p : Option Addr) (cap : Nat) (els : List El) (w0 w : World) (hels : ∀ el ∈ els, EncAs w0 el) (hmem : Els w0 p els) (hlen : els.length ≤ 65536) (htot : (encEls els).length ≤ 268435456) (hup : Up w0 w) :
    Calls Tryd.prog 50 #[.agg (vCells 3 0 ⟨#[]⟩ (.slice p els.length cap))] w fun e w' => ∃ v', e = .returned v' ∧ Own w' w.heap.size v' (3 :: (Enc.num els.length ++ encEls els)) ∧ Up w w' := by
  have HUP := Lib.hid hup
  have HM := Lib.hid hmem
  have HE := Lib.hid hels
  have HTOT := Lib.hid htot
  clear hup hmem hels htot
  obtain ⟨m, hm⟩ : ∃ m, m = els.length := ⟨_, rfl⟩
  rw [← hm] at hlen
  rw [← hm]
  have HMM := Lib.hid hm
  clear hm
  have NU := Lib.hid fun w => rc_numeral m w (by omega)
  have hnl := Enc.num_length m
  have hd2 : ((m : Int) % 18446744073709551616) = m := by omega
  have hd3 : IntKind.u64.wrap (m : Int) = m := by rw [IntKind.wrap_u64]; exact hd2
  unfold vCells
  go_enter Tryd.func50, Tryd.ntmps50
  go_wp2_with fail
  refine calls_nm ?_
  intro W hW
  obtain ⟨bt, hbt⟩ : ∃ b, b = w.heap.size := ⟨_, rfl⟩
  obtain ⟨b, hb⟩ : ∃ b, b = w.heap.size + 1 := ⟨_, rfl⟩
  have hlit : Own W b (.slice (some ⟨b, 0, none⟩) 1 1) [3] := by
    have h := own_lit (w := w.alloc (Obj.cells #[Value.int IntKind.i64 3, Value.int IntKind.i64 0, Value.string ⟨#[]⟩, .slice p m cap] 64)) (n := 3) (z := 3) rfl (by omega) hW
    rw [alloc_size] at h
    rw [hb]; exact h
  have U1 : Hid (Up w W) := by show Up w W; rw [hW]; exact ((Up.refl w).alloc _).alloc _
  have HSZ : Hid (b < W.heap.size) := by show b < _; rw [hW, hb, alloc_size, alloc_size]; omega
  have HX1 : Hid (W.heap[bt]? = some (.cells #[.int .i64 3, .int .i64 0, .string ⟨#[]⟩, .slice p m cap] 64 (0, 0))) := by
    show _ = _
    rw [hW, heap_old (by rw [hbt, alloc_size]; omega), heap_new hbt]
  have HL := Lib.hid hlit
  have HB : Hid (w.heap.size ≤ b) := by show _ ≤ b; omega
  have HBB : Hid (bt < b) := by show _ < b; omega
  rw [← hb, ← hbt]
  clear hW hlit hb hbt
  refine (NU.out W).mono ?_
  rintro e w2 ⟨v2, rfl, ho2, u2⟩
  obtain ⟨p2, c2, rfl, g1, g2, g3⟩ := ho2.form
  have HL2 := Lib.hid (HL.out.up u2)
  have U2 : Hid (Up w w2) := Up.trans U1.out u2
  have HX2 : Hid (w2.heap[bt]? = some (.cells #[.int .i64 3, .int .i64 0, .string ⟨#[]⟩, .slice p m cap] 64 (0, 0))) := (u2.block bt (lt_of_block HX1.out)).trans HX1.out
  have G3 := Lib.hid g3
  have HSZ2 : Hid (b ≤ w2.heap.size) := by have := HSZ.out; have := u2.size; show b ≤ _; omega
  obtain ⟨m2, hm2⟩ : ∃ m', m' = (Enc.num m).length := ⟨_, rfl⟩
  rw [← hm2] at g1 hnl
  rw [← hm2]
  have HM2 := Lib.hid hm2
  clear u2 ho2 g3 hm2
  go_wp2_with (at_builtin; refine wpList_app rfl (.tmp 27) (.tmp 32) rfl rfl b _ _ _ _ _ (Enc.num m) rfl rfl HM2.out HL2.out G3.out (by rw [← HM2.out]; simp; omega) HSZ2.out ?_; intro v3 w3 ho3 hb3; have O3 := Lib.hid ho3; have B3 : Hid (Below b w2 w3) := hb3; clear ho3 hb3)
  have hx3 : w3.heap[bt]? = some (.cells #[.int .i64 3, .int .i64 0, .string ⟨#[]⟩, .slice p m cap] 64 (0, 0)) := (B3.out.block bt HBB.out).trans HX2.out
  have HX3 := Lib.hid hx3
  have U3 : Hid (Up w w3) := Below.trans U2.out (B3.out.mono HB.out)
  have HZ3 : Hid (b ≤ w3.heap.size) := Nat.le_trans HSZ2.out B3.out.size
  clear hx3
  clear HL2 HX2 G3 HSZ2 HM2 HL HX1 HSZ B3
  go_loopw [3, 4] (fun vo vi wq => ∃ i : Nat, i ≤ m ∧ vi = .int .i64 i ∧ Hid (Own wq b vo (3 :: (Enc.num m ++ encEls (els.take i)))) ∧ Hid (Up w wq) ∧ Hid (b ≤ wq.heap.size) ∧ Hid (wq.heap[bt]? = some (.cells #[.int .i64 3, .int .i64 0, .string ⟨#[]⟩, .slice p m cap] 64 (0, 0))))
    (fun _ vi _ => m - (intOf vi).toNat)
  case atStart => exact ⟨0, by omega, rfl, by simpa [encEls] using O3, U3, HZ3, HX3⟩
  case round =>
    clear O3 U3 HZ3 HX3
    obtain ⟨i, hi, rfl, HO, HU, HZ, HX⟩ := hrel
    have q3 : wr.cell? ⟨bt, 3, none⟩ = some (.slice p m cap) := by rw [cell_of_row wr bt 3 _ _ _ HX.out]; rfl
    by_cases hlt : i < m
    · have hi2 : i < els.length := by rw [← HMM.out]; exact hlt
      obtain ⟨bb, o, hp, hcells⟩ := HM.out (fun e => by rw [e] at hi2; simp at hi2)
      obtain ⟨c0, c1, c2, c3⟩ := hcells i hi2
      have hen := HE.out els[i] (List.getElem_mem hi2)
      have hstep : encEls (els.take (i + 1)) = encEls (els.take i) ++ els[i].e := by
        rw [List.take_succ_eq_append_getElem hi2, encEls_snoc]
      have hl1 := encEls_take_le els (i + 1)
      rw [hstep, List.length_append] at hl1
      have HLE : Hid ((encEls (els.take i)).length + els[i].e.length ≤ 268435456) := Nat.le_trans hl1 HTOT.out
      have hu0 : Up w0 wr := Up.trans HUP.out HU.out
      have hc : ∀ j v, w0.cell? ⟨bb, j, none⟩ = some v → wr.cell? ⟨bb, j, none⟩ = some v := fun j v h =>
        (hu0.below.cell (p := ⟨bb, j, none⟩) (block_lt_of_cell h)).trans h
      replace c0 := hc _ _ c0
      replace c1 := hc _ _ c1
      replace c2 := hc _ _ c2
      replace c3 := hc _ _ c3
      obtain ⟨el, hel⟩ : ∃ el, el = els[i] := ⟨_, rfl⟩
      rw [← hel] at c0 c1 c2 c3 hen hstep HLE
      obtain ⟨k, n', s', lp', ln', lc', d', e'⟩ := el
      simp only at c0 c1 c2 c3 hen hstep HLE
      have HF : Hid (∀ W, Up wr W → Calls Tryd.prog 50 #[.agg #[.int .i64 k, .int .i64 n', .string s', .slice lp' ln' lc']] W fun r W' => ∃ v', r = .returned v' ∧ Own W' W.heap.size v' e' ∧ Up W W') := fun W hW => hen W (Up.trans hu0 hW)
      have HSTEP := Lib.hid hstep
      subst hp
      clear hstep hu0 hen hcells hc hel hi2 hl1
      go_wp2_with fail
      refine (HF.out wr (Up.refl _)).mono ?_
      rintro r w5 ⟨v5, rfl, ho5, u5⟩
      obtain ⟨p5, c5, rfl, g1, g2, g3⟩ := ho5.form
      have G5 := Lib.hid g3
      have HO5 := Lib.hid (HO.out.up u5)
      have HU5 : Hid (Up w w5) := Up.trans HU.out u5
      have HZ5 : Hid (b ≤ w5.heap.size) := Nat.le_trans HZ.out u5.size
      have HX5 : Hid (w5.heap[bt]? = some (.cells #[.int .i64 3, .int .i64 0, .string ⟨#[]⟩, .slice _ m cap] 64 (0, 0))) := (u5.block bt (lt_of_block HX.out)).trans HX.out
      obtain ⟨m5, hm5⟩ : ∃ m', m' = e'.length := ⟨_, rfl⟩
      rw [← hm5] at g1
      rw [← hm5]
      have HM5 := Lib.hid hm5
      clear u5 ho5 g3 hm5 c0 c1 c2 c3
      go_wp2_with (at_builtin; refine wpList_app rfl (.tmp 41) (.tmp 47) rfl rfl b _ _ _ _ _ e' rfl rfl HM5.out HO5.out G5.out (by have := HLE.out; have := Enc.num_length m; simp; omega) HZ5.out ?_; intro v6 w6 ho6 hb6; have O6 := Lib.hid ho6; have B6 : Hid (Below b w5 w6) := hb6; clear ho6 hb6)
      refine ⟨⟨i + 1, by omega, by go_num, ?_, Below.trans HU5.out (B6.out.mono HB.out), Nat.le_trans HZ5.out B6.out.size, (B6.out.block bt HBB.out).trans HX5.out⟩, by simp [intOf]; omega⟩
      rw [HSTEP.out]
      simpa using O6
    · have him : i = m := by omega
      subst him
      have hfin : encEls (els.take i) = encEls els := by rw [HMM.out, List.take_length]
      rw [hfin] at HO
      clear hfin
      go_wp2_with fail
      go_ret
      exact ⟨_, rfl, HO.out.less HB.out, HU.out⟩

end Go.Proofs.YtmifpokafaiebaaDoor
