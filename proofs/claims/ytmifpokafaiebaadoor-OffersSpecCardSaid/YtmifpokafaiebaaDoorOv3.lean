/- the reference's Check and Message of an offer. -/
import Derived.Test.YtmifpokafaiebaaDoorOv2
namespace Go.Proofs.YtmifpokafaiebaaDoor
open Go Go.RowKit
set_option linter.unusedVariables false
set_option maxRecDepth 100000

set_option maxHeartbeats 2000000 in
theorem rcheck44_calls (a : OfA) (w : World) (h : LtsAt w a) : Calls Tryd.prog 17 #[.agg (ofCells a).toArray] w fun e w' => e = .returned (.int .i64 (chkO a.o)) ∧ Up w w' := by
  have VC : Hid (a.o.lots.length ≤ 8 → ∀ W, Up w W → Calls Tryd.prog 36 #[.agg (ofCells a).toArray] W fun e w' => e = .returned (.bool (!badHead a.o && lotsB (-1) a.o.lots)) ∧ Up W w') := fun h8 W hu => rvalid_calls a W (h.up hu) h8
  obtain ⟨V, hV⟩ : ∃ V, V = (!badHead a.o && lotsB (-1) a.o.lots) := ⟨_, rfl⟩
  have hE : chkO a.o = if 8 < a.o.lots.length then 2 else if V then 0 else 440 := by
    unfold chkO
    rw [hV]
    by_cases h1 : 8 < a.o.lots.length
    · rw [if_pos h1, if_pos h1]
    · rw [if_neg h1, if_neg h1]
      cases badHead a.o <;> cases lotsB (-1) a.o.lots <;> rfl
  rw [hE]
  rw [← hV] at VC
  obtain ⟨o, p, c⟩ := a
  unfold ofCells at VC ⊢
  simp only at VC ⊢
  obtain ⟨m, hm⟩ : ∃ m, m = o.lots.length := ⟨_, rfl⟩
  rw [← hm] at VC ⊢
  clear hm hV h hE
  by_cases h1 : 8 < m
  case pos =>
    have d : decide ((8 : Int) < (m : Int)) = true := by simp; omega
    rw [if_pos h1]
    clear h1 VC
    go_enter Tryd.func17, Tryd.ntmps17
    go_wp2_with fail
    go_ret
    exact ⟨rfl, (Up.refl w).alloc _⟩
  have d : decide ((8 : Int) < (m : Int)) = false := by simp; omega
  rw [if_neg h1]
  have VD := Lib.hid (VC.out (by omega))
  clear VC h1
  go_enter Tryd.func17, Tryd.ntmps17
  go_wp2_with ((with_reducible show wpList _ _ _ (Oper.mk _ (Op.load _ (Operand.tmp 1)) _ _ _ _ :: _) _ _); refine wpList_named ?_; intro W1 hW1; (have u1 : Up w W1 := by (rw [hW1]; exact (Up.refl w).alloc _)); (have xa : W1.heap[w.heap.size]? = some (.cells #[.int .i64 o.no, .int .i64 o.farm, .int .i64 o.price, .int .i64 o.lo, .int .i64 o.hi, .slice p m c] 26 (0, 0)) := by (rw [hW1]; exact heap_new rfl)); have U1 := Lib.hid u1; have XA := Lib.hid xa; clear u1 xa hW1; refine wpList_load_arr rfl 26 (.tmp 1) rfl w.heap.size 0 rfl #[.int .i64 o.no, .int .i64 o.farm, .int .i64 o.price, .int .i64 o.lo, .int .i64 o.hi, .slice p m c] _ (rangeAt_row XA.out) rfl rfl (by rfl) ?_)
  refine (VD.out W1 U1.out).mono ?_
  rintro e W2 ⟨rfl, u2⟩
  have U2 : Hid (Up w W2) := Up.trans U1.out u2
  clear u2 VD
  cases V
  · go_wp2_with fail
    go_ret
    exact ⟨rfl, U2.out⟩
  · go_wp2_with fail
    go_ret
    exact ⟨rfl, U2.out⟩

/-- a list in a row of one's own, for the reference -/
theorem rel_list {w : World} {base : Nat} {p : Option Addr} {n c : Nat} {xs : List Enc.It} (ho : OwnV w base (.slice p n c) (xs.map elIt)) (hok : ∀ x ∈ xs, x.ok) (hlen : xs.length ≤ 65536) (htot : (xs.map Enc.encIt).flatten.length ≤ 268435456) : EncAs w (lstEl p n c xs) ∧ FormR w (lstEl p n c xs) ∧ (lstEl p n c xs).d ≤ 15 := by
  obtain ⟨p', c', hv, hels, hlow⟩ := ho.form
  injection hv with h1 h2 h3
  subst h1 h2 h3
  have e : encIts xs = 3 :: (Enc.num (xs.map elIt).length ++ encEls (xs.map elIt)) := by rw [encIts, Enc.encL, encEls, els_map, List.length_map, List.length_map]
  refine ⟨fun W hu => ?_, fun W hu => ⟨?_, ?_⟩, by show 1 ≤ 15; omega⟩
  · have := rc_encL p c (xs.map elIt) w W (fun el hel => by obtain ⟨x, hx, rfl⟩ := List.mem_map.1 hel; exact elIt_encAs w x (hok x hx)) hels (by simpa using hlen) (by rw [encEls, els_map]; exact htot) hu
    rw [← e] at this
    exact this
  · exact rc_formedL p c (xs.map elIt) w W (fun el hel => by obtain ⟨x, hx, rfl⟩ := List.mem_map.1 hel; exact elIt_formR w x) hels (by simpa using hlen) hu
  · have := rc_depthL p c (xs.map elIt) w W (fun el hel => by obtain ⟨x, hx, rfl⟩ := List.mem_map.1 hel; exact ⟨elIt_formR w x, by cases x <;> exact Nat.zero_le _⟩) hels (by simpa using hlen) hu
    rw [depth0] at this
    exact this
theorem ownV_block {w : World} {b : Nat} {D : Array Value} {els : List El} (h : w.heap[b]? = some (.cells D 64 (0, 0))) (hD : D.toList = rowV els) (hs : D.size = els.length * 4) (hm : els.length ≤ maxLen) : OwnV w b (.slice (some ⟨b, 0, none⟩) els.length els.length) els := by
  refine ⟨by rw [← hD, Array.length_toList, hs], .inr ⟨b, els.length, D, rfl, Nat.le_refl _, h, Nat.le_refl _, hm, hs, ?_⟩⟩
  rw [← hD, List.take_of_length_le (by rw [Array.length_toList, hs]; exact Nat.le_refl _)]

set_option maxHeartbeats 2000000 in
theorem rmessage_bad (a : OfA) (salt : List UInt8) (sp : Option Addr) (sc : Nat) (w : World) (h : LtsAt w a) (hb : msgE a.o salt ≠ 0) : Calls Tryd.prog 13 #[.agg (ofCells a).toArray, .slice sp salt.length sc] w (RetD w [] (msgE a.o salt)) := by
  have CK := Lib.hid fun W (hu : Up w W) => rcheck44_calls a W (h.up hu)
  have hAs : Hid ((ofCells a).toArray.size = 6) := rfl
  unfold msgE at hb ⊢
  obtain ⟨ee, hee⟩ : ∃ ee, ee = chkO a.o := ⟨_, rfl⟩
  rw [← hee] at hb CK ⊢
  obtain ⟨A, hA⟩ : ∃ A, A = (ofCells a).toArray := ⟨_, rfl⟩
  rw [← hA] at CK hAs ⊢
  obtain ⟨n, hn⟩ : ∃ n, n = salt.length := ⟨_, rfl⟩
  rw [← hn] at hb ⊢
  clear hA hee hn h
  by_cases h0 : ee = 0
  case neg =>
    rw [if_neg h0]
    have d0 : (ee != 0) = true := by rw [bne_iff_ne]; exact h0
    clear hb h0
    go_enter Tryd.func13, Tryd.ntmps13
    go_wp2_with ((with_reducible show wpList _ _ _ (Oper.mk _ (Op.load _ (Operand.tmp 2)) _ _ _ _ :: _) _ _); refine wpList_named ?_; intro W1 hW1; (have u1 : Up w W1 := by (rw [hW1]; exact (Up.refl w).alloc _)); (have xa : W1.heap[w.heap.size]? = some (.cells A 26 (0, 0)) := by (rw [hW1]; exact heap_new rfl)); have U1 := Lib.hid u1; have XA := Lib.hid xa; clear u1 xa hW1; refine wpList_load_arr rfl 26 (.tmp 2) rfl w.heap.size 0 rfl A _ (rangeAt_row XA.out) rfl rfl (by rw [hAs.out]; rfl) ?_)
    refine (CK.out W1 U1.out).mono ?_
    rintro e W2 ⟨rfl, u2⟩
    have U2 : Hid (Up w W2) := Up.trans U1.out u2
    clear u2
    go_wp2_with fail
    go_ret2
    exact ⟨none, 0, rfl, fun h => absurd rfl h, Nat.le_refl _, by unfold maxLen; omega, U2.out⟩
  subst h0
  have h16 : n ≠ 16 := fun e => hb (by simp [e])
  rw [if_pos rfl, if_neg h16]
  have d1 : (((n : Nat) : Int) != 16) = true := by rw [bne_iff_ne]; omega
  clear hb h16
  go_enter Tryd.func13, Tryd.ntmps13
  go_wp2_with ((with_reducible show wpList _ _ _ (Oper.mk _ (Op.load _ (Operand.tmp 2)) _ _ _ _ :: _) _ _); refine wpList_named ?_; intro W1 hW1; (have u1 : Up w W1 := by (rw [hW1]; exact (Up.refl w).alloc _)); (have xa : W1.heap[w.heap.size]? = some (.cells A 26 (0, 0)) := by (rw [hW1]; exact heap_new rfl)); have U1 := Lib.hid u1; have XA := Lib.hid xa; clear u1 xa hW1; refine wpList_load_arr rfl 26 (.tmp 2) rfl w.heap.size 0 rfl A _ (rangeAt_row XA.out) rfl rfl (by rw [hAs.out]; rfl) ?_)
  refine (CK.out W1 U1.out).mono ?_
  rintro e W2 ⟨rfl, u2⟩
  have U2 : Hid (Up w W2) := Up.trans U1.out u2
  clear u2
  go_wp2_with fail
  go_ret2
  exact ⟨none, 0, rfl, fun h => absurd rfl h, Nat.le_refl _, by unfold maxLen; omega, U2.out⟩

end Go.Proofs.YtmifpokafaiebaaDoor
