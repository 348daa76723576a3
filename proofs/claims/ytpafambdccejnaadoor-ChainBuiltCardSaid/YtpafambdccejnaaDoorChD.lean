/- equality of links: the reference's SameLink, chain.Part's closure. the reference's Few and Same. chain.differ. chain.Part. the reference's Part. acequialaw08.clash. -/
import Derived.Test.YtpafambdccejnaaDoorChC
namespace Go.Proofs.YtpafambdccejnaaDoor
open Go.RowKit
set_option linter.unusedVariables false

theorem Lk.eq_iff {x y : Lk} : x = y ↔ x.node = y.node ∧ x.no = y.no ∧ x.prev = y.prev ∧ x.data = y.data := by
  cases x; cases y; simp
instance : DecidableEq Lk := fun _ _ => decidable_of_iff _ Lk.eq_iff.symm

theorem wpList_load_arrG {P : Program} {ops : Array Oper} {rest : List Oper} {Q : Exit → Act → World → Prop} {a : Act} {w : World} {o : Oper} (hw : Region.wanted o (yielded ops a.tmps) = true) (ty : TypeId) (x : Operand) (ho : o.op = .load ty x)
    (b off : Nat) (hx : a.eval x = .pointer (some ⟨b, off, none⟩)) (D : Array Value) (d : TypeDesc) (hc : w.rangeAt b off D.toList)
    (hu : P.underlying ty = some d) (hd : d.isRow = true) (hi : (P.info? ty).map (·.size) = some D.size)
    (h : wpList P ops Q rest (a.put o.dst (.agg D)) w) : wpList P ops Q (o :: rest) a w :=
  wpList_step fun K hK => by
    rw [if_pos hw]
    exact wp_load_mid ty x ho b off hx D.toList d hc hu hd (by rw [hi, Array.length_toList]) (by rw [Array.toArray_toList]; exact hK _ _ h)

set_option maxRecDepth 100000 in
set_option maxHeartbeats 2000000 in
theorem sameLink_calls (D1 D2 : Array Value) (x y : Lk) (w : World) (h1 : LkV w D1.toList x) (h2 : LkV w D2.toList y) (hx : x.ok) (hy : y.ok) :
    Calls Tryd.prog 18 #[.agg D1, .agg D2] w fun e w' => e = .returned (.bool (decide (x = y))) ∧ Up w w' := by
  obtain ⟨p, c, hc1, hl1, hm1, hs1⟩ := h1
  obtain ⟨q, d, hc2, hl2, hm2, hs2⟩ := h2
  have hxp := hx.prev
  have hyp := hy.prev
  have hq : ∀ w : World, (Op.equalIn 10000 35 (.agg (u8s x.prev).toArray) (.agg (u8s y.prev).toArray)).run Tryd.prog w = .ok (decide (x.prev = y.prev)) w := fun w => run_equalIn_digest 9998 _ _ w hxp hyp
  obtain ⟨W, hW⟩ : ∃ W, W = (w.alloc (.cells D1 37 (0, 0))).alloc (.cells D2 37 (0, 0)) := ⟨_, rfl⟩
  have u : Up w W := by rw [hW]; exact ((Up.refl w).alloc _).alloc _
  have y1 : W.heap[w.heap.size]? = some (.cells D1 37 (0, 0)) := by rw [hW, heap_old (by simp), heap_new rfl]
  have y2 : W.heap[w.heap.size + 1]? = some (.cells D2 37 (0, 0)) := by rw [hW, heap_new (by simp)]
  have g1 : W.rangeAt w.heap.size 2 (u8s x.prev).toArray.toList := rangeAt_part y1 2 (u8s x.prev).toArray (fun j hj => by
    have hj2 : j < x.prev.length := by simpa [u8s_length] using hj
    rw [lk_c2 hc1 j hj2]; simp [u8s, hj2])
  have g2 : W.rangeAt (w.heap.size + 1) 2 (u8s y.prev).toArray.toList := rangeAt_part y2 2 (u8s y.prev).toArray (fun j hj => by
    have hj2 : j < y.prev.length := by simpa [u8s_length] using hj
    rw [lk_c2 hc2 j hj2]; simp [u8s, hj2])
  obtain ⟨n1, hn1⟩ : ∃ n, n = x.data.length := ⟨_, rfl⟩
  obtain ⟨n2, hn2⟩ : ∃ n, n = y.data.length := ⟨_, rfl⟩
  have a0 := lk_c0 hc1
  have a1 := lk_c1 hc1
  have a3 := lk_c3 hxp hc1
  have b0 := lk_c0 hc2
  have b1 := lk_c1 hc2
  have b3 := lk_c3 hyp hc2
  rw [← hn1] at a3
  rw [← hn2] at b3
  have r1 := run_text_of W p c x.data (hs1.up u)
  have r2 := run_text_of W q d y.data (hs2.up u)
  rw [← hn1, hW] at r1
  rw [← hn2, hW] at r2
  have he : ((bsOf x.data).toList == (bsOf y.data).toList) = decide (x.data = y.data) := by
    rw [ByteArray.toList_eq, ByteArray.toList_eq, bsOf_list, bsOf_list, Bool.eq_iff_iff]; simp
  have HE := Lib.hid he
  rw [hW] at g1 g2
  have G1 := Lib.hid g1
  have G2 := Lib.hid g2
  have UU := Lib.hid u
  rw [hW] at UU
  have HXP := Lib.hid hxp
  have HYP := Lib.hid hyp
  obtain ⟨pe, hpe⟩ : ∃ pe, pe = decide (x.prev = y.prev) := ⟨_, rfl⟩
  rw [← hpe] at hq
  have HPE := Lib.hid hpe
  obtain ⟨rs, hrs⟩ : ∃ rs, rs = decide (x = y) := ⟨_, rfl⟩
  rw [← hrs]
  have HRS : Hid (rs = decide (x.node = y.node ∧ x.no = y.no ∧ x.prev = y.prev ∧ x.data = y.data)) := by show rs = _; rw [hrs, decide_eq_decide]; exact Lk.eq_iff
  clear hc1 hc2 hs1 hs2 hn1 hn2 hxp hyp hx hy hl1 hm1 hl2 hm2 hW u y1 y2 g1 g2 hpe hrs he
  by_cases e1 : x.node = y.node
  case neg =>
    have d1 : (x.node == y.node) = false := by simpa using e1
    have HR : Hid (rs = false) := by show _ = _; rw [HRS.out, decide_eq_false_iff_not]; exact fun h => e1 h.1
    clear e1
    go_enter Tryd.func18, Tryd.ntmps18
    go_wp2_with (first | ((with_reducible show wpList _ _ _ (Oper.mk _ (Op.load _ (Operand.tmp 18)) _ _ _ _ :: _) _ _); refine wpList_load_arrG (by rfl) 35 (.tmp 18) rfl w.heap.size 2 rfl (u8s x.prev).toArray _ G1.out rfl rfl (by rw [u8s_arr, HXP.out]; rfl) ?_) | ((with_reducible show wpList _ _ _ (Oper.mk _ (Op.load _ (Operand.tmp 20)) _ _ _ _ :: _) _ _); refine wpList_load_arrG (by rfl) 35 (.tmp 20) rfl (w.heap.size + 1) 2 rfl (u8s y.prev).toArray _ G2.out rfl rfl (by rw [u8s_arr, HYP.out]; rfl) ?_))
    go_ret
    exact ⟨by rw [HR.out] <;> rfl, UU.out⟩
  have d1 : (x.node == y.node) = true := by simpa using e1
  by_cases e2 : x.no = y.no
  case neg =>
    have d2 : (x.no == y.no) = false := by simpa using e2
    have HR : Hid (rs = false) := by show _ = _; rw [HRS.out, decide_eq_false_iff_not]; exact fun h => e2 h.2.1
    clear e1 e2
    go_enter Tryd.func18, Tryd.ntmps18
    go_wp2_with (first | ((with_reducible show wpList _ _ _ (Oper.mk _ (Op.load _ (Operand.tmp 18)) _ _ _ _ :: _) _ _); refine wpList_load_arrG (by rfl) 35 (.tmp 18) rfl w.heap.size 2 rfl (u8s x.prev).toArray _ G1.out rfl rfl (by rw [u8s_arr, HXP.out]; rfl) ?_) | ((with_reducible show wpList _ _ _ (Oper.mk _ (Op.load _ (Operand.tmp 20)) _ _ _ _ :: _) _ _); refine wpList_load_arrG (by rfl) 35 (.tmp 20) rfl (w.heap.size + 1) 2 rfl (u8s y.prev).toArray _ G2.out rfl rfl (by rw [u8s_arr, HYP.out]; rfl) ?_))
    go_ret
    exact ⟨by rw [HR.out] <;> rfl, UU.out⟩
  have d2 : (x.no == y.no) = true := by simpa using e2
  cases pe
  · have HR : Hid (rs = false) := by
      show _ = _
      have h3 := HPE.out
      rw [HRS.out, decide_eq_false_iff_not]
      exact fun h => by rw [decide_eq_true h.2.2.1] at h3; cases h3
    clear e1 e2
    go_enter Tryd.func18, Tryd.ntmps18
    go_wp2_with (first | ((with_reducible show wpList _ _ _ (Oper.mk _ (Op.load _ (Operand.tmp 18)) _ _ _ _ :: _) _ _); refine wpList_load_arrG (by rfl) 35 (.tmp 18) rfl w.heap.size 2 rfl (u8s x.prev).toArray _ G1.out rfl rfl (by rw [u8s_arr, HXP.out]; rfl) ?_) | ((with_reducible show wpList _ _ _ (Oper.mk _ (Op.load _ (Operand.tmp 20)) _ _ _ _ :: _) _ _); refine wpList_load_arrG (by rfl) 35 (.tmp 20) rfl (w.heap.size + 1) 2 rfl (u8s y.prev).toArray _ G2.out rfl rfl (by rw [u8s_arr, HYP.out]; rfl) ?_))
    go_ret
    exact ⟨by rw [HR.out] <;> rfl, UU.out⟩
  · have HR : Hid (rs = decide (x.data = y.data)) := by
      show _ = _
      have h3 := HPE.out
      have h4 : x.prev = y.prev := by simpa using h3.symm
      rw [HRS.out, decide_eq_decide]
      exact ⟨fun h => h.2.2.2, fun h => ⟨e1, e2, h4, h⟩⟩
    clear e1 e2
    go_enter Tryd.func18, Tryd.ntmps18
    go_wp2_with (first | ((with_reducible show wpList _ _ _ (Oper.mk _ (Op.load _ (Operand.tmp 18)) _ _ _ _ :: _) _ _); refine wpList_load_arrG (by rfl) 35 (.tmp 18) rfl w.heap.size 2 rfl (u8s x.prev).toArray _ G1.out rfl rfl (by rw [u8s_arr, HXP.out]; rfl) ?_) | ((with_reducible show wpList _ _ _ (Oper.mk _ (Op.load _ (Operand.tmp 20)) _ _ _ _ :: _) _ _); refine wpList_load_arrG (by rfl) 35 (.tmp 20) rfl (w.heap.size + 1) 2 rfl (u8s y.prev).toArray _ G2.out rfl rfl (by rw [u8s_arr, HYP.out]; rfl) ?_))
    go_ret
    exact ⟨by rw [HR.out, ← HE.out] <;> rfl, UU.out⟩

set_option maxRecDepth 100000 in
set_option maxHeartbeats 2000000 in
theorem part1_calls (D1 D2 : Array Value) (x y : Lk) (w : World) (h1 : LkV w D1.toList x) (h2 : LkV w D2.toList y) (hx : x.ok) (hy : y.ok) :
    Calls Tryd.prog 24 #[.agg D1, .agg D2] w fun e w' => e = .returned (.bool (decide (x = y))) ∧ Up w w' := by
  obtain ⟨p, c, hc1, hl1, hm1, hs1⟩ := h1
  obtain ⟨q, d, hc2, hl2, hm2, hs2⟩ := h2
  have hxp := hx.prev
  have hyp := hy.prev
  have hq : ∀ w : World, (Op.equalIn 10000 35 (.agg (u8s x.prev).toArray) (.agg (u8s y.prev).toArray)).run Tryd.prog w = .ok (decide (x.prev = y.prev)) w := fun w => run_equalIn_digest 9998 _ _ w hxp hyp
  obtain ⟨W, hW⟩ : ∃ W, W = (w.alloc (.cells D1 37 (0, 0))).alloc (.cells D2 37 (0, 0)) := ⟨_, rfl⟩
  have u : Up w W := by rw [hW]; exact ((Up.refl w).alloc _).alloc _
  have y1 : W.heap[w.heap.size]? = some (.cells D1 37 (0, 0)) := by rw [hW, heap_old (by simp), heap_new rfl]
  have y2 : W.heap[w.heap.size + 1]? = some (.cells D2 37 (0, 0)) := by rw [hW, heap_new (by simp)]
  have g1 : W.rangeAt w.heap.size 2 (u8s x.prev).toArray.toList := rangeAt_part y1 2 (u8s x.prev).toArray (fun j hj => by
    have hj2 : j < x.prev.length := by simpa [u8s_length] using hj
    rw [lk_c2 hc1 j hj2]; simp [u8s, hj2])
  have g2 : W.rangeAt (w.heap.size + 1) 2 (u8s y.prev).toArray.toList := rangeAt_part y2 2 (u8s y.prev).toArray (fun j hj => by
    have hj2 : j < y.prev.length := by simpa [u8s_length] using hj
    rw [lk_c2 hc2 j hj2]; simp [u8s, hj2])
  obtain ⟨n1, hn1⟩ : ∃ n, n = x.data.length := ⟨_, rfl⟩
  obtain ⟨n2, hn2⟩ : ∃ n, n = y.data.length := ⟨_, rfl⟩
  have a0 := lk_c0 hc1
  have a1 := lk_c1 hc1
  have a3 := lk_c3 hxp hc1
  have b0 := lk_c0 hc2
  have b1 := lk_c1 hc2
  have b3 := lk_c3 hyp hc2
  rw [← hn1] at a3
  rw [← hn2] at b3
  have EQ := Lib.hid (equal_calls p q n1 n2 c d x.data y.data W hn1 hn2 (hs1.up u) (hs2.up u))
  rw [hW] at EQ
  rw [hW] at g1 g2
  have G1 := Lib.hid g1
  have G2 := Lib.hid g2
  have UU := Lib.hid u
  rw [hW] at UU
  have HXP := Lib.hid hxp
  have HYP := Lib.hid hyp
  obtain ⟨pe, hpe⟩ : ∃ pe, pe = decide (x.prev = y.prev) := ⟨_, rfl⟩
  rw [← hpe] at hq
  have HPE := Lib.hid hpe
  obtain ⟨rs, hrs⟩ : ∃ rs, rs = decide (x = y) := ⟨_, rfl⟩
  rw [← hrs]
  have HRS : Hid (rs = decide (x.node = y.node ∧ x.no = y.no ∧ x.prev = y.prev ∧ x.data = y.data)) := by show rs = _; rw [hrs, decide_eq_decide]; exact Lk.eq_iff
  clear hc1 hc2 hs1 hs2 hn1 hn2 hxp hyp hx hy hl1 hm1 hl2 hm2 hW u y1 y2 g1 g2 hpe hrs
  by_cases e1 : x.node = y.node
  case neg =>
    have d1 : (x.node == y.node) = false := by simpa using e1
    have HR : Hid (rs = false) := by show _ = _; rw [HRS.out, decide_eq_false_iff_not]; exact fun h => e1 h.1
    clear e1
    go_enter Tryd.func24, Tryd.ntmps24
    go_wp2_with (first | ((with_reducible show wpList _ _ _ (Oper.mk _ (Op.load _ (Operand.tmp 18)) _ _ _ _ :: _) _ _); refine wpList_load_arrG (by rfl) 35 (.tmp 18) rfl w.heap.size 2 rfl (u8s x.prev).toArray _ G1.out rfl rfl (by rw [u8s_arr, HXP.out]; rfl) ?_) | ((with_reducible show wpList _ _ _ (Oper.mk _ (Op.load _ (Operand.tmp 20)) _ _ _ _ :: _) _ _); refine wpList_load_arrG (by rfl) 35 (.tmp 20) rfl (w.heap.size + 1) 2 rfl (u8s y.prev).toArray _ G2.out rfl rfl (by rw [u8s_arr, HYP.out]; rfl) ?_))
    go_ret
    exact ⟨by rw [HR.out] <;> rfl, UU.out⟩
  have d1 : (x.node == y.node) = true := by simpa using e1
  by_cases e2 : x.no = y.no
  case neg =>
    have d2 : (x.no == y.no) = false := by simpa using e2
    have HR : Hid (rs = false) := by show _ = _; rw [HRS.out, decide_eq_false_iff_not]; exact fun h => e2 h.2.1
    clear e1 e2
    go_enter Tryd.func24, Tryd.ntmps24
    go_wp2_with (first | ((with_reducible show wpList _ _ _ (Oper.mk _ (Op.load _ (Operand.tmp 18)) _ _ _ _ :: _) _ _); refine wpList_load_arrG (by rfl) 35 (.tmp 18) rfl w.heap.size 2 rfl (u8s x.prev).toArray _ G1.out rfl rfl (by rw [u8s_arr, HXP.out]; rfl) ?_) | ((with_reducible show wpList _ _ _ (Oper.mk _ (Op.load _ (Operand.tmp 20)) _ _ _ _ :: _) _ _); refine wpList_load_arrG (by rfl) 35 (.tmp 20) rfl (w.heap.size + 1) 2 rfl (u8s y.prev).toArray _ G2.out rfl rfl (by rw [u8s_arr, HYP.out]; rfl) ?_))
    go_ret
    exact ⟨by rw [HR.out] <;> rfl, UU.out⟩
  have d2 : (x.no == y.no) = true := by simpa using e2
  cases pe
  · have HR : Hid (rs = false) := by
      show _ = _
      have h3 := HPE.out
      rw [HRS.out, decide_eq_false_iff_not]
      exact fun h => by rw [decide_eq_true h.2.2.1] at h3; cases h3
    clear e1 e2
    go_enter Tryd.func24, Tryd.ntmps24
    go_wp2_with (first | ((with_reducible show wpList _ _ _ (Oper.mk _ (Op.load _ (Operand.tmp 18)) _ _ _ _ :: _) _ _); refine wpList_load_arrG (by rfl) 35 (.tmp 18) rfl w.heap.size 2 rfl (u8s x.prev).toArray _ G1.out rfl rfl (by rw [u8s_arr, HXP.out]; rfl) ?_) | ((with_reducible show wpList _ _ _ (Oper.mk _ (Op.load _ (Operand.tmp 20)) _ _ _ _ :: _) _ _); refine wpList_load_arrG (by rfl) 35 (.tmp 20) rfl (w.heap.size + 1) 2 rfl (u8s y.prev).toArray _ G2.out rfl rfl (by rw [u8s_arr, HYP.out]; rfl) ?_))
    go_ret
    exact ⟨by rw [HR.out] <;> rfl, UU.out⟩
  · have HR : Hid (rs = decide (x.data = y.data)) := by
      show _ = _
      have h3 := HPE.out
      have h4 : x.prev = y.prev := by simpa using h3.symm
      rw [HRS.out, decide_eq_decide]
      exact ⟨fun h => h.2.2.2, fun h => ⟨e1, e2, h4, h⟩⟩
    clear e1 e2
    go_enter Tryd.func24, Tryd.ntmps24
    go_wp2_with (first | ((with_reducible show wpList _ _ _ (Oper.mk _ (Op.load _ (Operand.tmp 18)) _ _ _ _ :: _) _ _); refine wpList_load_arrG (by rfl) 35 (.tmp 18) rfl w.heap.size 2 rfl (u8s x.prev).toArray _ G1.out rfl rfl (by rw [u8s_arr, HXP.out]; rfl) ?_) | ((with_reducible show wpList _ _ _ (Oper.mk _ (Op.load _ (Operand.tmp 20)) _ _ _ _ :: _) _ _); refine wpList_load_arrG (by rfl) 35 (.tmp 20) rfl (w.heap.size + 1) 2 rfl (u8s y.prev).toArray _ G2.out rfl rfl (by rw [u8s_arr, HYP.out]; rfl) ?_))
    refine EQ.out.mono ?_
    rintro e w5 ⟨rfl, rfl⟩
    go_wp2_with fail
    go_ret
    exact ⟨by rw [HR.out] <;> rfl, UU.out⟩

end Go.Proofs.YtpafambdccejnaaDoor

namespace Go.Proofs.YtpafambdccejnaaDoor
open Go.RowKit
set_option linter.unusedVariables false

structure Lk.wf (x : Lk) : Prop where
  node : i64In x.node
  no : i64In x.no
  prev : x.prev.length = 32
def fewB (ls : List Lk) : Bool := decide (ls.length ≤ 16) && ls.all fun x => decide (x.data.length ≤ 300)
theorem fewB_few {ls : List Lk} (hw : ∀ x ∈ ls, x.wf) (h : fewB ls = true) : Few ls ∧ ls.length ≤ 16 := by
  simp only [fewB, Bool.and_eq_true, decide_eq_true_eq, List.all_eq_true] at h
  exact ⟨⟨by omega, fun x hx => ⟨(hw x hx).node, (hw x hx).no, (hw x hx).prev, h.2 x hx⟩⟩, h.1⟩
theorem DFn.up {w W : World} {p : Option Addr} {ls : List Lk} {D : Nat → Array Value} (h : DFn w p ls D) (hu : Up w W) : DFn W p ls D := fun hne => by
  obtain ⟨b, o, e, h2⟩ := h hne
  exact ⟨b, o, e, fun i hi => ⟨(h2 i hi).1.up hu, rangeAt_up (h2 i hi).2 hu⟩⟩

set_option maxRecDepth 100000 in
set_option maxHeartbeats 1000000 in
theorem few_calls (p : Option Addr) (n c : Nat) (ls : List Lk) (w : World) (hn : n = ls.length) (hw : ∀ x ∈ ls, x.wf) (h : Links w p ls) (hc : n ≤ c) (hcm : c ≤ maxLen) :
    Calls Tryd.prog 9 #[.slice p n c] w fun e w' => e = .returned (.bool (fewB ls)) ∧ w = w' := by
  by_cases h16 : 16 < n
  · have hr : fewB ls = false := by
      simp only [fewB]
      rw [Bool.and_eq_false_iff]
      left; simp; omega
    have HR := Lib.hid hr
    have d1 : decide ((16 : Int) < (n : Int)) = true := by simp; omega
    clear hn hw h hc hcm hr
    go_enter Tryd.func9, Tryd.ntmps9
    go_wp2
    go_ret
    exact ⟨by rw [HR.out] <;> rfl, rfl⟩
  · have d1 : decide ((16 : Int) < (n : Int)) = false := by simp; omega
    obtain ⟨D, hD⟩ := h.fn
    have HD := Lib.hid hD
    have HN := Lib.hid hn
    have HW := Lib.hid hw
    clear hn hw h hcm hD
    go_enter Tryd.func9, Tryd.ntmps9
    go_wp2
    go_loop [3] (fun v3 => ∃ i : Nat, i ≤ n ∧ v3 = .int .i64 i ∧ Hid (∀ j (h : j < ls.length), j < i → ls[j].data.length ≤ 300)) (fun v3 => n - (intOf v3).toNat)
    case atStart => exact ⟨0, by omega, rfl, fun j _ hj => by omega⟩
    case round =>
      obtain ⟨i, hi, rfl, HJ⟩ := hrel
      by_cases hlt : i < n
      · have hil : i < ls.length := by rw [← HN.out]; exact hlt
        obtain ⟨b, o, rfl, hdd⟩ := HD.out (by rintro rfl; simp at hil)
        obtain ⟨⟨px, cx, hcs, hd1, hd2, hd3⟩, hrg⟩ := hdd i hil
        have hxp := (HW.out _ (List.getElem_mem hil)).prev
        have hcell : w.cell? ⟨b, o + i * 35 + 34, none⟩ = some (.slice px ls[i].data.length cx) := by
          refine hrg 34 _ ?_
          have := lk_c3 hxp (D := D i) hcs
          rw [← Array.getElem?_toList] at this
          exact this
        obtain ⟨k, hk⟩ : ∃ k, k = ls[i].data.length := ⟨_, rfl⟩
        rw [← hk] at hcell
        have HK := Lib.hid hk
        by_cases h300 : 300 < k
        · have d2 : decide ((300 : Int) < (k : Int)) = true := by simp; omega
          have hr : fewB ls = false := by
            simp only [fewB]
            rw [Bool.and_eq_false_iff]
            right
            rw [List.all_eq_false]
            exact ⟨ls[i], List.getElem_mem hil, by rw [← hk]; simp; omega⟩
          have HR := Lib.hid hr
          clear hrg hdd hcs hd3 hxp hr hk
          go_wp2
          go_ret
          exact ⟨by rw [HR.out] <;> rfl, rfl⟩
        · have d2 : decide ((300 : Int) < (k : Int)) = false := by simp; omega
          have HY : Hid (∀ j (h : j < ls.length), j < i + 1 → ls[j].data.length ≤ 300) := fun j hj hj2 => by
            rcases Nat.lt_or_ge j i with h | h
            · exact HJ.out j hj h
            · obtain rfl : j = i := by omega
              omega
          clear hrg hdd hcs hd3 hxp hk
          go_wp2
          go_round
          case rel => exact ⟨i + 1, by omega, by go_num, HY⟩
          case measure => simp [intOf]; omega
      · have hr : fewB ls = true := by
          simp only [fewB, Bool.and_eq_true, decide_eq_true_eq, List.all_eq_true]
          have hln := HN.out
          refine ⟨by omega, fun x hx => ?_⟩
          obtain ⟨j, hj, rfl⟩ := List.getElem_of_mem hx
          exact HJ.out j hj (by omega)
        have HR := Lib.hid hr
        clear hr
        go_wp2
        go_ret
        exact ⟨by rw [HR.out] <;> rfl, rfl⟩

set_option maxRecDepth 100000 in
set_option maxHeartbeats 1000000 in
theorem same_calls (p q : Option Addr) (n m c d : Nat) (ls ms : List Lk) (w : World) (hn : n = ls.length) (hm : m = ms.length) (hf : Few ls) (hg : Few ms) (h : Links w p ls) (h2 : Links w q ms) :
    Calls Tryd.prog 14 #[.slice p n c, .slice q m d] w fun e w' => e = .returned (.bool (decide (ls = ms))) ∧ Up w w' := by
  have hn100 : n ≤ 100 := by rw [hn]; exact hf.1
  by_cases hnm : n = m
  case neg =>
    have hr : decide (ls = ms) = false := by
      rw [decide_eq_false_iff_not]; rintro rfl; omega
    have HR := Lib.hid hr
    have d1 : ((n : Int) == (m : Int)) = false := by simp; omega
    have d2 : ((n : Int) != (m : Int)) = true := by simp; omega
    clear hn hm hf hg h h2 hr
    go_enter Tryd.func14, Tryd.ntmps14
    go_wp2
    go_ret
    exact ⟨by rw [HR.out] <;> rfl, Up.refl _⟩
  subst hnm
  have d1 : ((n : Int) == (n : Int)) = true := by simp
  have d2 : ((n : Int) != (n : Int)) = false := by simp
  obtain ⟨D, hD⟩ := h.fn
  obtain ⟨E, hE⟩ := h2.fn
  have HDS := Lib.hid fun i (hi : i < n) => (DFn.size hf hD i (by omega) : (D i).size = 35)
  have HES := Lib.hid fun i (hi : i < n) => (DFn.size hg hE i (by omega) : (E i).size = 35)
  have HD := Lib.hid hD
  have HE := Lib.hid hE
  have HN := Lib.hid hn
  have HM := Lib.hid hm
  have HF := Lib.hid hf
  have HG := Lib.hid hg
  clear hn hm hf hg h h2 hD hE
  go_enter Tryd.func14, Tryd.ntmps14
  go_wp2
  go_loopw [5] (fun v5 wq => ∃ i : Nat, i ≤ n ∧ v5 = .int .i64 i ∧ Hid (ls.take i = ms.take i) ∧ Hid (Up w wq)) (fun v5 _ => n - (intOf v5).toNat)
  case atStart => exact ⟨0, by omega, rfl, rfl, Up.refl _⟩
  case round =>
    obtain ⟨i, hi, rfl, HT, HU⟩ := hrel
    by_cases hlt : i < n
    case neg =>
      have hr : decide (ls = ms) = true := by
        have h3 := HT.out
        rw [List.take_of_length_le (by rw [← HN.out]; omega), List.take_of_length_le (by rw [← HM.out]; omega)] at h3
        simpa using h3
      have HR := Lib.hid hr
      clear hr
      go_wp2
      go_ret
      exact ⟨by rw [HR.out] <;> rfl, HU.out⟩
    have hil : i < ls.length := by rw [← HN.out]; exact hlt
    have him : i < ms.length := by rw [← HM.out]; exact hlt
    obtain ⟨b, o, rfl, hdd⟩ := HD.out (by rintro rfl; simp at hil)
    obtain ⟨b2, o2, rfl, hee⟩ := HE.out (by rintro rfl; simp at him)
    obtain ⟨hlv, hrg⟩ := hdd i hil
    obtain ⟨hlv2, hrg2⟩ := hee i him
    have hx := HF.out.2 _ (List.getElem_mem hil)
    have hy := HG.out.2 _ (List.getElem_mem him)
    have SL := Lib.hid fun (W : World) (hu : Up w W) => sameLink_calls (D i) (E i) ls[i] ms[i] W (hlv.up hu) (hlv2.up hu) hx hy
    obtain ⟨rs, hrs⟩ : ∃ rs, rs = decide (ls[i] = ms[i]) := ⟨_, rfl⟩
    rw [← hrs] at SL
    have HRS := Lib.hid hrs
    have G1 := Lib.hid fun (W : World) (hu : Up w W) => rangeAt_up hrg hu
    have G2 := Lib.hid fun (W : World) (hu : Up w W) => rangeAt_up hrg2 hu
    have S1 := Lib.hid (HDS.out i hlt)
    have S2 := Lib.hid (HES.out i hlt)
    clear hrs hrg hrg2 hlv hlv2 hx hy hdd hee
    haveI := UpW.some_ wr.drew
    go_wp2
    refine wp_region_up_k (by kernel_rfl) (by kernel_rfl) ?_
    intro R hR
    have hi0 : (0 : Int) ≤ i := by omega
    have hi1 : (i : Int) < n := by omega
    repeat (first | ((with_reducible show wpQuiet _ _ _ _ (Oper.mk _ (Op.load _ (Operand.tmp 19)) _ _ _ _ :: _) _); refine wpQuiet_load_arr (by rfl) 37 (.tmp 19) rfl b (o + i * 35) rfl (D i) _ (fun w' hw' => by (obtain ⟨z, rfl⟩ := hw'; exact G1.out _ (Up.trans HU.out (Up.trans (Up.refl wr).drew z.up)))) rfl rfl (by rw [S1.out]; rfl) ?_) | ((with_reducible show wpQuiet _ _ _ _ (Oper.mk _ (Op.load _ (Operand.tmp 23)) _ _ _ _ :: _) _); refine wpQuiet_load_arr (by rfl) 37 (.tmp 23) rfl b2 (o2 + i * 35) rfl (E i) _ (fun w' hw' => by (obtain ⟨z, rfl⟩ := hw'; exact G2.out _ (Up.trans HU.out (Up.trans (Up.refl wr).drew z.up)))) rfl rfl (by rw [S2.out]; rfl) ?_) | go_big_quiet_step (fail) | quiet_step ((go_at_call 18; with_reducible exact Calls.quiet_up (SL.out _ (Up.trans HU.out (Up.trans (Up.refl wr).drew (UpW.up _)))))))
    refine wpQuiet_nil (hR _ ?_)
    clear hR R
    rintro w4 ⟨z, hz⟩
    have U4 : Hid (Up w w4) := by show Up w w4; rw [hz]; exact Up.trans HU.out (Up.trans (Up.refl wr).drew z.up)
    clear hz
    cases rs
    · have hr : decide (ls = ms) = false := by
        have h3 := HRS.out
        rw [decide_eq_false_iff_not]
        rintro rfl
        simp at h3
      have HR := Lib.hid hr
      clear hr
      go_wp2
      go_ret
      exact ⟨by rw [HR.out] <;> rfl, U4.out⟩
    · have HT2 : Hid (ls.take (i + 1) = ms.take (i + 1)) := by
        show _ = _
        have h3 : ls[i] = ms[i] := by have := HRS.out; simpa using this.symm
        rw [List.take_succ_eq_append_getElem hil, List.take_succ_eq_append_getElem him, HT.out, h3]
      go_wp2
      exact ⟨⟨i + 1, by omega, by go_num, HT2, U4⟩, by simp [intOf]; omega⟩

end Go.Proofs.YtpafambdccejnaaDoor

namespace Go.Proofs.YtpafambdccejnaaDoor
open Go.RowKit
set_option linter.unusedVariables false

/-- the first index at which both have a link, and these differ -/
def diff : List Lk → List Lk → Option Nat
  | x :: xs, y :: ys => if x = y then (diff xs ys).map (· + 1) else some 0
  | _, _ => none
theorem diff_none : ∀ (ls ms : List Lk), ls.take (min ls.length ms.length) = ms.take (min ls.length ms.length) → diff ls ms = none
  | [], _, _ => by simp [diff]
  | _ :: _, [], _ => by simp [diff]
  | x :: xs, y :: ys, h => by
    simp only [List.length_cons, Nat.add_min_add_right, List.take_succ_cons, List.cons.injEq] at h
    simp [diff, h.1, diff_none xs ys h.2]
theorem diff_some : ∀ (i : Nat) (ls ms : List Lk) (h1 : i < ls.length) (h2 : i < ms.length), ls.take i = ms.take i → ls[i] ≠ ms[i] → diff ls ms = some i
  | 0, x :: xs, y :: ys, _, _, _, hne => by simp only [List.getElem_cons_zero] at hne; simp [diff, hne]
  | i + 1, x :: xs, y :: ys, h1, h2, ht, hne => by
    simp only [List.take_succ_cons, List.cons.injEq] at ht
    simp only [List.getElem_cons_succ] at hne
    simp [diff, ht.1, diff_some i xs ys (by simpa using h1) (by simpa using h2) ht.2 hne]
theorem diff_spec : ∀ (ls ms : List Lk) (i : Nat), diff ls ms = some i → ∃ (h1 : i < ls.length) (h2 : i < ms.length), ls.take i = ms.take i ∧ ls[i] ≠ ms[i]
  | [], _, i, h => by simp [diff] at h
  | _ :: _, [], i, h => by simp [diff] at h
  | x :: xs, y :: ys, i, h => by
    by_cases e : x = y
    · simp only [diff, if_pos e, Option.map_eq_some_iff] at h
      obtain ⟨j, hj, rfl⟩ := h
      obtain ⟨h1, h2, h3, h4⟩ := diff_spec xs ys j hj
      exact ⟨by simpa using h1, by simpa using h2, by simp [e, h3], by simpa using h4⟩
    · simp only [diff, if_neg e, Option.some.injEq] at h
      subst h
      exact ⟨by simp, by simp, rfl, by simpa using e⟩
theorem diff_eq : ∀ (ls ms : List Lk), diff ls ms = none → ls.take (min ls.length ms.length) = ms.take (min ls.length ms.length)
  | [], _, _ => by simp
  | _ :: _, [], _ => by simp
  | x :: xs, y :: ys, h => by
    by_cases e : x = y
    · simp only [diff, if_pos e, Option.map_eq_none_iff] at h
      simp [Nat.add_min_add_right, e, diff_eq xs ys h]
    · simp [diff, e] at h
theorem diff_comm : ∀ (ls ms : List Lk), diff ls ms = diff ms ls
  | [], [] => rfl
  | [], _ :: _ => rfl
  | _ :: _, [] => rfl
  | x :: xs, y :: ys => by
    simp only [diff]
    by_cases e : x = y
    · rw [if_pos e, if_pos e.symm, diff_comm xs ys]
    · rw [if_neg e, if_neg (fun h => e h.symm)]
def dAt (o : Option Nat) : Int := match o with | some i => i | none => 0

set_option maxRecDepth 100000 in
set_option maxHeartbeats 1000000 in
theorem differ_calls (p q : Option Addr) (n m c d : Nat) (ls ms : List Lk) (w : World) (hn : n = ls.length) (hm : m = ms.length) (hf : Few ls) (hg : Few ms) (h : Links w p ls) (h2 : Links w q ms) :
    Calls Tryd.prog 23 #[.slice p n c, .slice q m d, .func (.func 24) #[] #[]] w fun e w' => e = .returned (.tuple #[.int .i64 (dAt (diff ls ms)), .bool (diff ls ms).isSome]) ∧ Up w w' := by
  have hn100 : n ≤ 100 := by rw [hn]; exact hf.1
  have hm100 : m ≤ 100 := by rw [hm]; exact hg.1
  obtain ⟨D, hD⟩ := h.fn
  obtain ⟨E, hE⟩ := h2.fn
  have HDS := Lib.hid fun i (hi : i < n) => (DFn.size hf hD i (by omega) : (D i).size = 35)
  have HES := Lib.hid fun i (hi : i < m) => (DFn.size hg hE i (by omega) : (E i).size = 35)
  have HD := Lib.hid hD
  have HE := Lib.hid hE
  have HN := Lib.hid hn
  have HM := Lib.hid hm
  have HF := Lib.hid hf
  have HG := Lib.hid hg
  clear hn hm hf hg h h2 hD hE
  by_cases hmn : m < n
  case pos =>
    go_enter Tryd.func23, Tryd.ntmps23
    go_wp2
    go_loopw [14] (fun v14 wq => ∃ i : Nat, i ≤ m ∧ v14 = .int .i64 i ∧ Hid (ls.take i = ms.take i) ∧ Hid (Up w wq)) (fun v14 _ => m - (intOf v14).toNat)
    case atStart => exact ⟨0, by omega, rfl, rfl, Up.refl _⟩
    case round =>
      obtain ⟨i, hi, rfl, HT, HU⟩ := hrel
      by_cases hlt : i < m
      case neg =>
        have hr : diff ls ms = none := by
          have h3 := HT.out
          have : i = min ls.length ms.length := by rw [← HN.out, ← HM.out]; omega
          rw [this] at h3
          exact diff_none _ _ h3
        have HR := Lib.hid hr
        clear hr
        go_wp2
        go_ret2
        exact ⟨by rw [HR.out] <;> rfl, HU.out⟩
      have hil : i < ls.length := by rw [← HN.out]; omega
      have him : i < ms.length := by rw [← HM.out]; omega
      obtain ⟨b, o, rfl, hdd⟩ := HD.out (by rintro rfl; simp at hil)
      obtain ⟨b2, o2, rfl, hee⟩ := HE.out (by rintro rfl; simp at him)
      obtain ⟨hlv, hrg⟩ := hdd i hil
      obtain ⟨hlv2, hrg2⟩ := hee i him
      have hx := HF.out.2 _ (List.getElem_mem hil)
      have hy := HG.out.2 _ (List.getElem_mem him)
      have SL := Lib.hid fun (W : World) (hu : Up w W) => part1_calls (D i) (E i) ls[i] ms[i] W (hlv.up hu) (hlv2.up hu) hx hy
      obtain ⟨rs, hrs⟩ : ∃ rs, rs = decide (ls[i] = ms[i]) := ⟨_, rfl⟩
      rw [← hrs] at SL
      have HRS := Lib.hid hrs
      have G1 := Lib.hid fun (W : World) (hu : Up w W) => rangeAt_up hrg hu
      have G2 := Lib.hid fun (W : World) (hu : Up w W) => rangeAt_up hrg2 hu
      have S1 := Lib.hid (HDS.out i (by omega))
      have S2 := Lib.hid (HES.out i (by omega))
      clear hrs hrg hrg2 hlv hlv2 hx hy hdd hee
      haveI := UpW.some_ wr.drew
      go_wp2
      refine wp_region_up_k (by kernel_rfl) (by kernel_rfl) ?_
      intro R hR
      have hi0 : (0 : Int) ≤ i := by omega
      have hi1 : (i : Int) < n := by omega
      have hi2 : (i : Int) < m := by omega
      repeat (first | ((with_reducible show wpQuiet _ _ _ _ (Oper.mk _ (Op.load _ (Operand.tmp 20)) _ _ _ _ :: _) _); refine wpQuiet_load_arr (by rfl) 37 (.tmp 20) rfl b (o + i * 35) rfl (D i) _ (fun w' hw' => by (obtain ⟨z, rfl⟩ := hw'; exact G1.out _ (Up.trans HU.out (Up.trans (Up.refl wr).drew z.up)))) rfl rfl (by rw [S1.out]; rfl) ?_) | ((with_reducible show wpQuiet _ _ _ _ (Oper.mk _ (Op.load _ (Operand.tmp 24)) _ _ _ _ :: _) _); refine wpQuiet_load_arr (by rfl) 37 (.tmp 24) rfl b2 (o2 + i * 35) rfl (E i) _ (fun w' hw' => by (obtain ⟨z, rfl⟩ := hw'; exact G2.out _ (Up.trans HU.out (Up.trans (Up.refl wr).drew z.up)))) rfl rfl (by rw [S2.out]; rfl) ?_) | go_big_quiet_step (fail) | quiet_step ((go_at_call 24; with_reducible exact Calls.quiet_up (SL.out _ (Up.trans HU.out (Up.trans (Up.refl wr).drew (UpW.up _)))))))
      refine wpQuiet_nil (hR _ ?_)
      clear hR R
      rintro w4 ⟨z, hz⟩
      have U4 : Hid (Up w w4) := by show Up w w4; rw [hz]; exact Up.trans HU.out (Up.trans (Up.refl wr).drew z.up)
      clear hz
      cases rs
      · have hr : diff ls ms = some i := diff_some i ls ms hil him HT.out (by have := HRS.out; simpa using this.symm)
        have HR := Lib.hid hr
        clear hr
        go_wp2
        go_ret2
        exact ⟨by rw [HR.out] <;> rfl, U4.out⟩
      · have HT2 : Hid (ls.take (i + 1) = ms.take (i + 1)) := by
          show _ = _
          have h3 : ls[i] = ms[i] := by have := HRS.out; simpa using this.symm
          rw [List.take_succ_eq_append_getElem hil, List.take_succ_eq_append_getElem him, HT.out, h3]
        go_wp2
        exact ⟨⟨i + 1, by omega, by go_num, HT2, U4⟩, by simp [intOf]; omega⟩
  case neg =>
    go_enter Tryd.func23, Tryd.ntmps23
    go_wp2
    go_loopw [14] (fun v14 wq => ∃ i : Nat, i ≤ n ∧ v14 = .int .i64 i ∧ Hid (ls.take i = ms.take i) ∧ Hid (Up w wq)) (fun v14 _ => n - (intOf v14).toNat)
    case atStart => exact ⟨0, by omega, rfl, rfl, Up.refl _⟩
    case round =>
      obtain ⟨i, hi, rfl, HT, HU⟩ := hrel
      by_cases hlt : i < n
      case neg =>
        have hr : diff ls ms = none := by
          have h3 := HT.out
          have : i = min ls.length ms.length := by rw [← HN.out, ← HM.out]; omega
          rw [this] at h3
          exact diff_none _ _ h3
        have HR := Lib.hid hr
        clear hr
        go_wp2
        go_ret2
        exact ⟨by rw [HR.out] <;> rfl, HU.out⟩
      have hil : i < ls.length := by rw [← HN.out]; omega
      have him : i < ms.length := by rw [← HM.out]; omega
      obtain ⟨b, o, rfl, hdd⟩ := HD.out (by rintro rfl; simp at hil)
      obtain ⟨b2, o2, rfl, hee⟩ := HE.out (by rintro rfl; simp at him)
      obtain ⟨hlv, hrg⟩ := hdd i hil
      obtain ⟨hlv2, hrg2⟩ := hee i him
      have hx := HF.out.2 _ (List.getElem_mem hil)
      have hy := HG.out.2 _ (List.getElem_mem him)
      have SL := Lib.hid fun (W : World) (hu : Up w W) => part1_calls (D i) (E i) ls[i] ms[i] W (hlv.up hu) (hlv2.up hu) hx hy
      obtain ⟨rs, hrs⟩ : ∃ rs, rs = decide (ls[i] = ms[i]) := ⟨_, rfl⟩
      rw [← hrs] at SL
      have HRS := Lib.hid hrs
      have G1 := Lib.hid fun (W : World) (hu : Up w W) => rangeAt_up hrg hu
      have G2 := Lib.hid fun (W : World) (hu : Up w W) => rangeAt_up hrg2 hu
      have S1 := Lib.hid (HDS.out i (by omega))
      have S2 := Lib.hid (HES.out i (by omega))
      clear hrs hrg hrg2 hlv hlv2 hx hy hdd hee
      haveI := UpW.some_ wr.drew
      go_wp2
      refine wp_region_up_k (by kernel_rfl) (by kernel_rfl) ?_
      intro R hR
      have hi0 : (0 : Int) ≤ i := by omega
      have hi1 : (i : Int) < n := by omega
      have hi2 : (i : Int) < m := by omega
      repeat (first | ((with_reducible show wpQuiet _ _ _ _ (Oper.mk _ (Op.load _ (Operand.tmp 20)) _ _ _ _ :: _) _); refine wpQuiet_load_arr (by rfl) 37 (.tmp 20) rfl b (o + i * 35) rfl (D i) _ (fun w' hw' => by (obtain ⟨z, rfl⟩ := hw'; exact G1.out _ (Up.trans HU.out (Up.trans (Up.refl wr).drew z.up)))) rfl rfl (by rw [S1.out]; rfl) ?_) | ((with_reducible show wpQuiet _ _ _ _ (Oper.mk _ (Op.load _ (Operand.tmp 24)) _ _ _ _ :: _) _); refine wpQuiet_load_arr (by rfl) 37 (.tmp 24) rfl b2 (o2 + i * 35) rfl (E i) _ (fun w' hw' => by (obtain ⟨z, rfl⟩ := hw'; exact G2.out _ (Up.trans HU.out (Up.trans (Up.refl wr).drew z.up)))) rfl rfl (by rw [S2.out]; rfl) ?_) | go_big_quiet_step (fail) | quiet_step ((go_at_call 24; with_reducible exact Calls.quiet_up (SL.out _ (Up.trans HU.out (Up.trans (Up.refl wr).drew (UpW.up _)))))))
      refine wpQuiet_nil (hR _ ?_)
      clear hR R
      rintro w4 ⟨z, hz⟩
      have U4 : Hid (Up w w4) := by show Up w w4; rw [hz]; exact Up.trans HU.out (Up.trans (Up.refl wr).drew z.up)
      clear hz
      cases rs
      · have hr : diff ls ms = some i := diff_some i ls ms hil him HT.out (by have := HRS.out; simpa using this.symm)
        have HR := Lib.hid hr
        clear hr
        go_wp2
        go_ret2
        exact ⟨by rw [HR.out] <;> rfl, U4.out⟩
      · have HT2 : Hid (ls.take (i + 1) = ms.take (i + 1)) := by
          show _ = _
          have h3 : ls[i] = ms[i] := by have := HRS.out; simpa using this.symm
          rw [List.take_succ_eq_append_getElem hil, List.take_succ_eq_append_getElem him, HT.out, h3]
        go_wp2
        exact ⟨⟨i + 1, by omega, by go_num, HT2, U4⟩, by simp [intOf]; omega⟩

end Go.Proofs.YtpafambdccejnaaDoor

namespace Go.Proofs.YtpafambdccejnaaDoor
open Go.RowKit
set_option linter.unusedVariables false

def apart (a b : List Lk) : Bool := decide (a ≠ [] ∧ b ≠ [] ∧ nd0 a ≠ nd0 b)
def parE (a b : List Lk) : Int := if chk a = 0 then (if chk b = 0 then (if apart a b then 80 else 0) else chk b) else chk a
def parI (a b : List Lk) : Int := if parE a b = 0 then dAt (diff a b) else 0
def parB (a b : List Lk) : Bool := if parE a b = 0 then (diff a b).isSome else false

theorem first_cell {w : World} {p : Option Addr} {ls : List Lk} (h : Links w p ls) (hne : ls ≠ []) : ∃ b o, p = some ⟨b, o, none⟩ ∧ ∀ W, Up w W → W.cell? ⟨b, o, none⟩ = some (.int .i64 (nd0 ls)) := by
  obtain ⟨b, o, e, hat⟩ := h hne
  have hl : 0 < ls.length := List.length_pos_iff.2 hne
  obtain ⟨cs, ⟨px, cx, hcs, _, _, _⟩, hrg⟩ := hat 0 hl
  have hnd : nd0 ls = ls[0].node := by cases ls with | nil => exact absurd rfl hne | cons x xs => rfl
  have hc0 : w.cell? ⟨b, o, none⟩ = some (.int .i64 (nd0 ls)) := by
    have := hrg 0 (.int .i64 ls[0].node) (by rw [hcs]; rfl)
    rw [hnd]; simpa using this
  exact ⟨b, o, e, fun W hu => (hu.below.cell (p := ⟨b, o, none⟩) (block_lt_of_cell hc0)).trans hc0⟩

set_option maxRecDepth 100000 in
set_option maxHeartbeats 2000000 in
theorem part_calls (p q : Option Addr) (n m c d : Nat) (ls ms : List Lk) (w : World) (hn : n = ls.length) (hm : m = ms.length) (hf : Few ls) (hg : Few ms) (h : Links w p ls) (h2 : Links w q ms) (htab : Tabs w) (hc : n ≤ c) (hcm : c ≤ maxLen) (hd : m ≤ d) (hdm : d ≤ maxLen) :
    Calls Tryd.prog 12 #[.slice p n c, .slice q m d] w fun e w' => e = .returned (.tuple #[.int .i64 (parI ls ms), .bool (parB ls ms), .int .i64 (parE ls ms)]) ∧ Up w w' := by
  have hn100 : n ≤ 100 := by rw [hn]; exact hf.1
  have hm100 : m ≤ 100 := by rw [hm]; exact hg.1
  have HC1 := Lib.hid (chCheck_calls p n c ls w hn hf h htab hc hcm)
  have HC2 := Lib.hid fun W (hu : Up w W) => chCheck_calls q m d ms W hm hg (h2.up hu) (htab.up hu) hd hdm
  have DF := Lib.hid fun W (hu : Up w W) => differ_calls p q n m c d ls ms W hn hm hf hg (h.up hu) (h2.up hu)
  rcases chk_cases ls with k1 | k1
  case inr =>
    have hE : parE ls ms = 80 := by unfold parE; rw [if_neg (by rw [k1]; decide), k1]
    have hI : parI ls ms = 0 := by unfold parI; rw [hE]; rfl
    have hB : parB ls ms = false := by unfold parB; rw [hE]; rfl
    rw [k1] at HC1
    rw [hE, hI, hB]
    clear hn hm hf hg h h2 htab k1 hE hI hB
    go_enter Tryd.func12, Tryd.ntmps12
    go_wp2_with fail
    refine HC1.out.mono ?_
    rintro e w1 ⟨rfl, u1⟩
    have U1 := Lib.hid u1
    clear u1
    go_wp2_with fail
    go_ret3
    exact ⟨rfl, U1.out⟩
  rw [k1] at HC1
  rcases chk_cases ms with k2 | k2
  case inr =>
    have hE : parE ls ms = 80 := by unfold parE; rw [if_pos k1, if_neg (by rw [k2]; decide), k2]
    have hI : parI ls ms = 0 := by unfold parI; rw [hE]; rfl
    have hB : parB ls ms = false := by unfold parB; rw [hE]; rfl
    rw [k2] at HC2
    rw [hE, hI, hB]
    clear hn hm hf hg h h2 htab k1 k2 hE hI hB
    go_enter Tryd.func12, Tryd.ntmps12
    go_wp2_with fail
    refine HC1.out.mono ?_
    rintro e w1 ⟨rfl, u1⟩
    have U1 := Lib.hid u1
    clear u1
    go_wp2_with fail
    refine (HC2.out w1 U1.out).mono ?_
    rintro e w2 ⟨rfl, u2⟩
    have U2 : Hid (Up w w2) := Up.trans U1.out u2
    clear u2
    go_wp2_with fail
    go_ret3
    exact ⟨rfl, U2.out⟩
  rw [k2] at HC2
  have hE0 : parE ls ms = if apart ls ms then 80 else 0 := by unfold parE; rw [if_pos k1, if_pos k2]
  have HEE := Lib.hid hE0
  have HN := Lib.hid hn
  have HM := Lib.hid hm
  have F1 := Lib.hid fun hne => first_cell h hne
  have F2 := Lib.hid fun hne => first_cell h2 hne
  clear hn hm hf hg h h2 htab k1 k2 hE0
  rcases Nat.eq_zero_or_pos n with hz | hp1
  case inl =>
    subst hz
    have HE0 : Hid (parE ls ms = 0) := by
      show _ = _
      rw [HEE.out, if_neg]
      unfold apart
      rw [decide_eq_true_iff]
      rintro ⟨h1, h2, h3⟩
      exact h1 (List.eq_nil_of_length_eq_zero HN.out.symm)
    have HI : Hid (parI ls ms = dAt (diff ls ms)) := by show _ = _; unfold parI; rw [if_pos HE0.out]
    have HB : Hid (parB ls ms = (diff ls ms).isSome) := by show _ = _; unfold parB; rw [if_pos HE0.out]
    clear F1 F2 HEE
    go_enter Tryd.func12, Tryd.ntmps12
    go_wp2_with fail
    refine HC1.out.mono ?_
    rintro e w1 ⟨rfl, u1⟩
    have U1 := Lib.hid u1
    clear u1
    go_wp2_with fail
    refine (HC2.out w1 U1.out).mono ?_
    rintro e w2 ⟨rfl, u2⟩
    have U2 : Hid (Up w w2) := Up.trans U1.out u2
    clear u2
    go_wp2_with fail
    haveI := UpW.some_ w2.drew
    refine wp_region_up_k (by kernel_rfl) (by kernel_rfl) ?_
    intro R hR
    repeat (first | go_big_quiet_step (fail) | quiet_step (fail))
    refine wpQuiet_nil (hR _ ?_)
    clear hR R
    rintro w4 ⟨z, hz⟩
    have U4 : Hid (Up w w4) := by show Up w w4; rw [hz]; exact Up.trans U2.out (Up.trans (Up.refl w2).drew z.up)
    clear hz
    go_wp2_with fail
    refine (DF.out w4 U4.out).mono ?_
    rintro e w5 ⟨rfl, u5⟩
    have U5 : Hid (Up w w5) := Up.trans U4.out u5
    clear u5
    go_wp2_with fail
    go_ret3
    exact ⟨by rw [HI.out, HB.out, HE0.out] <;> rfl, U5.out⟩
  rcases Nat.eq_zero_or_pos m with hz | hp2
  case inl =>
    subst hz
    have HE0 : Hid (parE ls ms = 0) := by
      show _ = _
      rw [HEE.out, if_neg]
      unfold apart
      rw [decide_eq_true_iff]
      rintro ⟨h1, h2, h3⟩
      exact h2 (List.eq_nil_of_length_eq_zero HM.out.symm)
    have HI : Hid (parI ls ms = dAt (diff ls ms)) := by show _ = _; unfold parI; rw [if_pos HE0.out]
    have HB : Hid (parB ls ms = (diff ls ms).isSome) := by show _ = _; unfold parB; rw [if_pos HE0.out]
    have hn0 : (0 : Int) < n := by omega
    have hn1 : decide ((0 : Int) < n) = true := by simpa using hp1
    clear F1 F2 HEE
    go_enter Tryd.func12, Tryd.ntmps12
    go_wp2_with fail
    refine HC1.out.mono ?_
    rintro e w1 ⟨rfl, u1⟩
    have U1 := Lib.hid u1
    clear u1
    go_wp2_with fail
    refine (HC2.out w1 U1.out).mono ?_
    rintro e w2 ⟨rfl, u2⟩
    have U2 : Hid (Up w w2) := Up.trans U1.out u2
    clear u2
    go_wp2_with fail
    haveI := UpW.some_ w2.drew
    refine wp_region_up_k (by kernel_rfl) (by kernel_rfl) ?_
    intro R hR
    repeat (first | go_big_quiet_step (fail) | quiet_step (fail))
    refine wpQuiet_nil (hR _ ?_)
    clear hR R
    rintro w4 ⟨z, hz⟩
    have U4 : Hid (Up w w4) := by show Up w w4; rw [hz]; exact Up.trans U2.out (Up.trans (Up.refl w2).drew z.up)
    clear hz
    go_wp2_with fail
    refine (DF.out w4 U4.out).mono ?_
    rintro e w5 ⟨rfl, u5⟩
    have U5 : Hid (Up w w5) := Up.trans U4.out u5
    clear u5
    go_wp2_with fail
    go_ret3
    exact ⟨by rw [HI.out, HB.out, HE0.out] <;> rfl, U5.out⟩
  have hne1 : ls ≠ [] := by rintro rfl; have := HN.out; simp at this; omega
  have hne2 : ms ≠ [] := by rintro rfl; have := HM.out; simp at this; omega
  obtain ⟨b1, o1, rfl, hc1⟩ := F1.out hne1
  obtain ⟨b2, o2, rfl, hc2⟩ := F2.out hne2
  have C1 := Lib.hid hc1
  have C2 := Lib.hid hc2
  clear hc1 hc2
  obtain ⟨x1, hx1⟩ : ∃ x, x = nd0 ls := ⟨_, rfl⟩
  obtain ⟨x2, hx2⟩ : ∃ x, x = nd0 ms := ⟨_, rfl⟩
  rw [← hx1] at C1
  rw [← hx2] at C2
  have HX1 := Lib.hid hx1
  have HX2 := Lib.hid hx2
  have hn0 : (0 : Int) < n := by omega
  have hm0 : (0 : Int) < m := by omega
  have hn1 : decide ((0 : Int) < n) = true := by simpa using hp1
  have hm1 : decide ((0 : Int) < m) = true := by simpa using hp2
  clear hx1 hx2
  by_cases e1 : x1 = x2
  · have d1 : (x1 == x2) = true := by simpa using e1
    have d1' : (x1 != x2) = false := by simp [e1]
    have HE0 : Hid (parE ls ms = 0) := by
      show _ = _
      rw [HEE.out, if_neg]
      unfold apart
      rw [decide_eq_true_iff]
      rintro ⟨h1, h2, h3⟩
      exact h3 (by rw [← HX1.out, ← HX2.out, e1])
    have HI : Hid (parI ls ms = dAt (diff ls ms)) := by show _ = _; unfold parI; rw [if_pos HE0.out]
    have HB : Hid (parB ls ms = (diff ls ms).isSome) := by show _ = _; unfold parB; rw [if_pos HE0.out]
    clear F1 F2 HEE e1
    go_enter Tryd.func12, Tryd.ntmps12
    go_wp2_with fail
    refine HC1.out.mono ?_
    rintro e w1 ⟨rfl, u1⟩
    have U1 := Lib.hid u1
    clear u1
    go_wp2_with fail
    refine (HC2.out w1 U1.out).mono ?_
    rintro e w2 ⟨rfl, u2⟩
    have U2 : Hid (Up w w2) := Up.trans U1.out u2
    clear u2
    go_wp2_with fail
    haveI := UpW.some_ w2.drew
    have k1 : ∀ z : UpW w2.drew, z.w.cell? ⟨b1, o1, none⟩ = some (.int .i64 x1) := fun z => C1.out _ (Up.trans U2.out (Up.trans (Up.refl w2).drew z.up))
    have k2 : ∀ z : UpW w2.drew, z.w.cell? ⟨b2, o2, none⟩ = some (.int .i64 x2) := fun z => C2.out _ (Up.trans U2.out (Up.trans (Up.refl w2).drew z.up))
    refine wp_region_up_k (by kernel_rfl) (by kernel_rfl) ?_
    intro R hR
    repeat (first | go_big_quiet_step (fail) | quiet_step (fail))
    refine wpQuiet_nil (hR _ ?_)
    clear hR R
    rintro w4 ⟨z, hz⟩
    have U4 : Hid (Up w w4) := by show Up w w4; rw [hz]; exact Up.trans U2.out (Up.trans (Up.refl w2).drew z.up)
    clear hz
    clear k1 k2
    go_wp2_with fail
    refine (DF.out w4 U4.out).mono ?_
    rintro e w5 ⟨rfl, u5⟩
    have U5 : Hid (Up w w5) := Up.trans U4.out u5
    clear u5
    go_wp2_with fail
    go_ret3
    exact ⟨by rw [HI.out, HB.out, HE0.out] <;> rfl, U5.out⟩
  · have d1 : (x1 == x2) = false := by simpa using e1
    have d1' : (x1 != x2) = true := by simpa using e1
    have HE0 : Hid (parE ls ms = 80) := by
      show _ = _
      rw [HEE.out, if_pos]
      unfold apart
      rw [decide_eq_true_iff]
      exact ⟨hne1, hne2, by rw [← HX1.out, ← HX2.out]; exact e1⟩
    have HI : Hid (parI ls ms = 0) := by show _ = _; unfold parI; rw [HE0.out]; rfl
    have HB : Hid (parB ls ms = false) := by show _ = _; unfold parB; rw [HE0.out]; rfl
    clear F1 F2 HEE e1
    go_enter Tryd.func12, Tryd.ntmps12
    go_wp2_with fail
    refine HC1.out.mono ?_
    rintro e w1 ⟨rfl, u1⟩
    have U1 := Lib.hid u1
    clear u1
    go_wp2_with fail
    refine (HC2.out w1 U1.out).mono ?_
    rintro e w2 ⟨rfl, u2⟩
    have U2 : Hid (Up w w2) := Up.trans U1.out u2
    clear u2
    go_wp2_with fail
    haveI := UpW.some_ w2.drew
    have k1 : ∀ z : UpW w2.drew, z.w.cell? ⟨b1, o1, none⟩ = some (.int .i64 x1) := fun z => C1.out _ (Up.trans U2.out (Up.trans (Up.refl w2).drew z.up))
    have k2 : ∀ z : UpW w2.drew, z.w.cell? ⟨b2, o2, none⟩ = some (.int .i64 x2) := fun z => C2.out _ (Up.trans U2.out (Up.trans (Up.refl w2).drew z.up))
    refine wp_region_up_k (by kernel_rfl) (by kernel_rfl) ?_
    intro R hR
    repeat (first | go_big_quiet_step (fail) | quiet_step (fail))
    refine wpQuiet_nil (hR _ ?_)
    clear hR R
    rintro w4 ⟨z, hz⟩
    have U4 : Hid (Up w w4) := by show Up w w4; rw [hz]; exact Up.trans U2.out (Up.trans (Up.refl w2).drew z.up)
    clear hz
    clear k1 k2
    go_wp2_with fail
    go_ret3
    exact ⟨by rw [HI.out, HB.out, HE0.out] <;> rfl, U4.out⟩

end Go.Proofs.YtpafambdccejnaaDoor

namespace Go.Proofs.YtpafambdccejnaaDoor
open Go.RowKit
set_option linter.unusedVariables false

set_option maxRecDepth 100000 in
set_option maxHeartbeats 2000000 in
theorem rpart_calls (p q : Option Addr) (n m c d : Nat) (ls ms : List Lk) (w : World) (hn : n = ls.length) (hm : m = ms.length) (hf : Few ls) (hg : Few ms) (h : Links w p ls) (h2 : Links w q ms) (hc : n ≤ c) (hcm : c ≤ maxLen) (hd : m ≤ d) (hdm : d ≤ maxLen) :
    Calls Tryd.prog 13 #[.slice p n c, .slice q m d] w fun e w' => e = .returned (.tuple #[.int .i64 (parI ls ms), .bool (parB ls ms), .int .i64 (parE ls ms)]) ∧ Up w w' := by
  have hn100 : n ≤ 100 := by rw [hn]; exact hf.1
  have hm100 : m ≤ 100 := by rw [hm]; exact hg.1
  have HC1 := Lib.hid (rCheck_calls p n c ls w hn hf h hc hcm)
  have HC2 := Lib.hid fun W (hu : Up w W) => rCheck_calls q m d ms W hm hg (h2.up hu) hd hdm
  obtain ⟨D, hD⟩ := h.fn
  obtain ⟨E, hE⟩ := h2.fn
  have HDS := Lib.hid fun i (hi : i < n) => (DFn.size hf hD i (by omega) : (D i).size = 35)
  have HES := Lib.hid fun i (hi : i < m) => (DFn.size hg hE i (by omega) : (E i).size = 35)
  have HD := Lib.hid hD
  have HEF := Lib.hid hE
  have HF := Lib.hid hf
  have HG := Lib.hid hg
  clear hD hE
  rcases chk_cases ls with k1 | k1
  case inr =>
    have hE : parE ls ms = 80 := by unfold parE; rw [if_neg (by rw [k1]; decide), k1]
    have hI : parI ls ms = 0 := by unfold parI; rw [hE]; rfl
    have hB : parB ls ms = false := by unfold parB; rw [hE]; rfl
    rw [k1] at HC1
    rw [hE, hI, hB]
    clear hn hm hf hg h h2 k1 hE hI hB
    go_enter Tryd.func13, Tryd.ntmps13
    go_wp2_with fail
    refine HC1.out.mono ?_
    rintro e w1 ⟨rfl, u1⟩
    have U1 := Lib.hid u1
    clear u1
    go_wp2_with fail
    go_ret3
    exact ⟨rfl, U1.out⟩
  rw [k1] at HC1
  rcases chk_cases ms with k2 | k2
  case inr =>
    have hE : parE ls ms = 80 := by unfold parE; rw [if_pos k1, if_neg (by rw [k2]; decide), k2]
    have hI : parI ls ms = 0 := by unfold parI; rw [hE]; rfl
    have hB : parB ls ms = false := by unfold parB; rw [hE]; rfl
    rw [k2] at HC2
    rw [hE, hI, hB]
    clear hn hm hf hg h h2 k1 k2 hE hI hB
    go_enter Tryd.func13, Tryd.ntmps13
    go_wp2_with fail
    refine HC1.out.mono ?_
    rintro e w1 ⟨rfl, u1⟩
    have U1 := Lib.hid u1
    clear u1
    go_wp2_with fail
    refine (HC2.out w1 U1.out).mono ?_
    rintro e w2 ⟨rfl, u2⟩
    have U2 : Hid (Up w w2) := Up.trans U1.out u2
    clear u2
    go_wp2_with fail
    go_ret3
    exact ⟨rfl, U2.out⟩
  rw [k2] at HC2
  have hE0 : parE ls ms = if apart ls ms then 80 else 0 := by unfold parE; rw [if_pos k1, if_pos k2]
  have HEE := Lib.hid hE0
  have HN := Lib.hid hn
  have HM := Lib.hid hm
  have F1 := Lib.hid fun hne => first_cell h hne
  have F2 := Lib.hid fun hne => first_cell h2 hne
  clear hn hm hf hg h h2 k1 k2 hE0
  rcases Nat.eq_zero_or_pos n with hz | hp1
  case inl =>
    subst hz
    have HE0 : Hid (parE ls ms = 0) := by
      show _ = _
      rw [HEE.out, if_neg]
      unfold apart
      rw [decide_eq_true_iff]
      rintro ⟨h1, h2, h3⟩
      exact h1 (List.eq_nil_of_length_eq_zero HN.out.symm)
    have HI : Hid (parI ls ms = dAt (diff ls ms)) := by show _ = _; unfold parI; rw [if_pos HE0.out]
    have HB : Hid (parB ls ms = (diff ls ms).isSome) := by show _ = _; unfold parB; rw [if_pos HE0.out]
    clear F1 F2 HEE
    go_enter Tryd.func13, Tryd.ntmps13
    go_wp2_with fail
    refine HC1.out.mono ?_
    rintro e w1 ⟨rfl, u1⟩
    have U1 := Lib.hid u1
    clear u1
    go_wp2_with fail
    refine (HC2.out w1 U1.out).mono ?_
    rintro e w2 ⟨rfl, u2⟩
    have U2 : Hid (Up w w2) := Up.trans U1.out u2
    clear u2
    go_wp2_with fail
    haveI := UpW.some_ w2.drew
    refine wp_region_up_k (by kernel_rfl) (by kernel_rfl) ?_
    intro R hR
    repeat (first | go_big_quiet_step (fail) | quiet_step (fail))
    refine wpQuiet_nil (hR _ ?_)
    clear hR R
    rintro w4 ⟨z, hz⟩
    have U4 : Hid (Up w w4) := by show Up w w4; rw [hz]; exact Up.trans U2.out (Up.trans (Up.refl w2).drew z.up)
    clear hz
    have HR : Hid (diff ls ms = none) := diff_none _ _ (by
      have h4 := HN.out
      have h5 := HM.out
      have : min ls.length ms.length = 0 := by omega
      rw [this]; rfl)
    go_wp2_with fail
    go_loopw [9] (fun v9 wq => v9 = .int .i64 0 ∧ Hid (Up w wq)) (fun _ _ => 0)
    case atStart => exact ⟨rfl, U4.out⟩
    case round =>
      obtain ⟨rfl, HU⟩ := hrel
      go_wp2
      go_ret3
      exact ⟨by rw [HI.out, HB.out, HE0.out, HR.out] <;> rfl, HU.out⟩
  rcases Nat.eq_zero_or_pos m with hz | hp2
  case inl =>
    subst hz
    have HE0 : Hid (parE ls ms = 0) := by
      show _ = _
      rw [HEE.out, if_neg]
      unfold apart
      rw [decide_eq_true_iff]
      rintro ⟨h1, h2, h3⟩
      exact h2 (List.eq_nil_of_length_eq_zero HM.out.symm)
    have HI : Hid (parI ls ms = dAt (diff ls ms)) := by show _ = _; unfold parI; rw [if_pos HE0.out]
    have HB : Hid (parB ls ms = (diff ls ms).isSome) := by show _ = _; unfold parB; rw [if_pos HE0.out]
    have hn0 : (0 : Int) < n := by omega
    have hn1 : decide ((0 : Int) < n) = true := by simpa using hp1
    clear F1 F2 HEE
    go_enter Tryd.func13, Tryd.ntmps13
    go_wp2_with fail
    refine HC1.out.mono ?_
    rintro e w1 ⟨rfl, u1⟩
    have U1 := Lib.hid u1
    clear u1
    go_wp2_with fail
    refine (HC2.out w1 U1.out).mono ?_
    rintro e w2 ⟨rfl, u2⟩
    have U2 : Hid (Up w w2) := Up.trans U1.out u2
    clear u2
    go_wp2_with fail
    haveI := UpW.some_ w2.drew
    refine wp_region_up_k (by kernel_rfl) (by kernel_rfl) ?_
    intro R hR
    repeat (first | go_big_quiet_step (fail) | quiet_step (fail))
    refine wpQuiet_nil (hR _ ?_)
    clear hR R
    rintro w4 ⟨z, hz⟩
    have U4 : Hid (Up w w4) := by show Up w w4; rw [hz]; exact Up.trans U2.out (Up.trans (Up.refl w2).drew z.up)
    clear hz
    have HR : Hid (diff ls ms = none) := diff_none _ _ (by
      have h4 := HN.out
      have h5 := HM.out
      have : min ls.length ms.length = 0 := by omega
      rw [this]; rfl)
    go_wp2_with fail
    go_loopw [9] (fun v9 wq => v9 = .int .i64 0 ∧ Hid (Up w wq)) (fun _ _ => 0)
    case atStart => exact ⟨rfl, U4.out⟩
    case round =>
      obtain ⟨rfl, HU⟩ := hrel
      go_wp2
      go_ret3
      exact ⟨by rw [HI.out, HB.out, HE0.out, HR.out] <;> rfl, HU.out⟩
  have hne1 : ls ≠ [] := by rintro rfl; have := HN.out; simp at this; omega
  have hne2 : ms ≠ [] := by rintro rfl; have := HM.out; simp at this; omega
  obtain ⟨b1, o1, rfl, hc1⟩ := F1.out hne1
  obtain ⟨b2, o2, rfl, hc2⟩ := F2.out hne2
  have C1 := Lib.hid hc1
  have C2 := Lib.hid hc2
  clear hc1 hc2
  obtain ⟨x1, hx1⟩ : ∃ x, x = nd0 ls := ⟨_, rfl⟩
  obtain ⟨x2, hx2⟩ : ∃ x, x = nd0 ms := ⟨_, rfl⟩
  rw [← hx1] at C1
  rw [← hx2] at C2
  have HX1 := Lib.hid hx1
  have HX2 := Lib.hid hx2
  have hn0 : (0 : Int) < n := by omega
  have hm0 : (0 : Int) < m := by omega
  have hn1 : decide ((0 : Int) < n) = true := by simpa using hp1
  have hm1 : decide ((0 : Int) < m) = true := by simpa using hp2
  clear hx1 hx2
  by_cases e1 : x1 = x2
  · have d1 : (x1 == x2) = true := by simpa using e1
    have d1' : (x1 != x2) = false := by simp [e1]
    have HE0 : Hid (parE ls ms = 0) := by
      show _ = _
      rw [HEE.out, if_neg]
      unfold apart
      rw [decide_eq_true_iff]
      rintro ⟨h1, h2, h3⟩
      exact h3 (by rw [← HX1.out, ← HX2.out, e1])
    have HI : Hid (parI ls ms = dAt (diff ls ms)) := by show _ = _; unfold parI; rw [if_pos HE0.out]
    have HB : Hid (parB ls ms = (diff ls ms).isSome) := by show _ = _; unfold parB; rw [if_pos HE0.out]
    clear F1 F2 HEE e1
    go_enter Tryd.func13, Tryd.ntmps13
    go_wp2_with fail
    refine HC1.out.mono ?_
    rintro e w1 ⟨rfl, u1⟩
    have U1 := Lib.hid u1
    clear u1
    go_wp2_with fail
    refine (HC2.out w1 U1.out).mono ?_
    rintro e w2 ⟨rfl, u2⟩
    have U2 : Hid (Up w w2) := Up.trans U1.out u2
    clear u2
    go_wp2_with fail
    haveI := UpW.some_ w2.drew
    have k1 : ∀ z : UpW w2.drew, z.w.cell? ⟨b1, o1, none⟩ = some (.int .i64 x1) := fun z => C1.out _ (Up.trans U2.out (Up.trans (Up.refl w2).drew z.up))
    have k2 : ∀ z : UpW w2.drew, z.w.cell? ⟨b2, o2, none⟩ = some (.int .i64 x2) := fun z => C2.out _ (Up.trans U2.out (Up.trans (Up.refl w2).drew z.up))
    refine wp_region_up_k (by kernel_rfl) (by kernel_rfl) ?_
    intro R hR
    repeat (first | go_big_quiet_step (fail) | quiet_step (fail))
    refine wpQuiet_nil (hR _ ?_)
    clear hR R
    rintro w4 ⟨z, hz⟩
    have U4 : Hid (Up w w4) := by show Up w w4; rw [hz]; exact Up.trans U2.out (Up.trans (Up.refl w2).drew z.up)
    clear hz
    clear k1 k2
    go_wp2_with fail
    go_loopw [9] (fun v9 wq => ∃ i : Nat, i ≤ n ∧ i ≤ m ∧ v9 = .int .i64 i ∧ Hid (ls.take i = ms.take i) ∧ Hid (Up w wq)) (fun v9 _ => n - (intOf v9).toNat)
    case atStart => exact ⟨0, by omega, by omega, rfl, rfl, U4.out⟩
    case round =>
      obtain ⟨i, hi, hi2, rfl, HT, HU⟩ := hrel
      by_cases hlt : i < n
      case neg =>
        have hr : diff ls ms = none := by
          have h3 := HT.out
          have h4 := HN.out
          have h5 := HM.out
          have : i = min ls.length ms.length := by omega
          rw [this] at h3
          exact diff_none _ _ h3
        have HR := Lib.hid hr
        clear hr
        go_wp2
        go_ret3
        exact ⟨by rw [HI.out, HB.out, HE0.out, HR.out] <;> rfl, HU.out⟩

      have d7 : decide ((i : Int) < (n : Int)) = true := by simp; omega
      by_cases hlt2 : i < m
      case neg =>
        have hr : diff ls ms = none := by
          have h3 := HT.out
          have h4 := HN.out
          have h5 := HM.out
          have : i = min ls.length ms.length := by omega
          rw [this] at h3
          exact diff_none _ _ h3
        have HR := Lib.hid hr
        clear hr
        go_wp2
        go_ret3
        exact ⟨by rw [HI.out, HB.out, HE0.out, HR.out] <;> rfl, HU.out⟩

      have hil : i < ls.length := by rw [← HN.out]; omega
      have him : i < ms.length := by rw [← HM.out]; omega
      obtain ⟨b, o, eb, hdd⟩ := HD.out (by rintro rfl; simp at hil)
      obtain ⟨b2', o2', eb2, hee⟩ := HEF.out (by rintro rfl; simp at him)
      injection eb with eb; injection eb with eb eo; subst eb eo
      injection eb2 with eb2; injection eb2 with eb2 eo2; subst eb2 eo2
      obtain ⟨hlv, hrg⟩ := hdd i hil
      obtain ⟨hlv2, hrg2⟩ := hee i him
      have hx := HF.out.2 _ (List.getElem_mem hil)
      have hy := HG.out.2 _ (List.getElem_mem him)
      have SL := Lib.hid fun (W : World) (hu : Up w W) => sameLink_calls (D i) (E i) ls[i] ms[i] W (hlv.up hu) (hlv2.up hu) hx hy
      obtain ⟨rs, hrs⟩ : ∃ rs, rs = decide (ls[i] = ms[i]) := ⟨_, rfl⟩
      rw [← hrs] at SL
      have HRS := Lib.hid hrs
      have G1 := Lib.hid fun (W : World) (hu : Up w W) => rangeAt_up hrg hu
      have G2 := Lib.hid fun (W : World) (hu : Up w W) => rangeAt_up hrg2 hu
      have S1 := Lib.hid (HDS.out i (by omega))
      have S2 := Lib.hid (HES.out i (by omega))
      clear hrs hrg hrg2 hlv hlv2 hx hy hdd hee
      haveI := UpW.some_ wr.drew
      go_wp2
      refine wp_region_up_k (by kernel_rfl) (by kernel_rfl) ?_
      intro R hR
      have hi0 : (0 : Int) ≤ i := by omega
      have hi1 : (i : Int) < n := by omega
      have hi2' : (i : Int) < m := by omega
      repeat (first | ((with_reducible show wpQuiet _ _ _ _ (Oper.mk _ (Op.load _ (Operand.tmp 53)) _ _ _ _ :: _) _); refine wpQuiet_load_arr (by rfl) 37 (.tmp 53) rfl b1 (o1 + i * 35) rfl (D i) _ (fun w' hw' => by (obtain ⟨z, rfl⟩ := hw'; exact G1.out _ (Up.trans HU.out (Up.trans (Up.refl wr).drew z.up)))) rfl rfl (by rw [S1.out]; rfl) ?_) | ((with_reducible show wpQuiet _ _ _ _ (Oper.mk _ (Op.load _ (Operand.tmp 57)) _ _ _ _ :: _) _); refine wpQuiet_load_arr (by rfl) 37 (.tmp 57) rfl b2 (o2 + i * 35) rfl (E i) _ (fun w' hw' => by (obtain ⟨z, rfl⟩ := hw'; exact G2.out _ (Up.trans HU.out (Up.trans (Up.refl wr).drew z.up)))) rfl rfl (by rw [S2.out]; rfl) ?_) | go_big_quiet_step (fail) | quiet_step ((go_at_call 18; with_reducible exact Calls.quiet_up (SL.out _ (Up.trans HU.out (Up.trans (Up.refl wr).drew (UpW.up _)))))))
      refine wpQuiet_nil (hR _ ?_)
      clear hR R
      rintro w5 ⟨z, hz⟩
      have U5 : Hid (Up w w5) := by show Up w w5; rw [hz]; exact Up.trans HU.out (Up.trans (Up.refl wr).drew z.up)
      clear hz
      cases rs
      · have hr : diff ls ms = some i := diff_some i ls ms hil him HT.out (by have := HRS.out; simpa using this.symm)
        have HR := Lib.hid hr
        clear hr
        go_wp2
        go_ret3
        exact ⟨by rw [HI.out, HB.out, HE0.out, HR.out] <;> rfl, U5.out⟩
      · have HT2 : Hid (ls.take (i + 1) = ms.take (i + 1)) := by
          show _ = _
          have h3 : ls[i] = ms[i] := by have := HRS.out; simpa using this.symm
          rw [List.take_succ_eq_append_getElem hil, List.take_succ_eq_append_getElem him, HT.out, h3]
        go_wp2
        exact ⟨⟨i + 1, by omega, by omega, by go_num, HT2, U5⟩, by simp [intOf]; omega⟩
  · have d1 : (x1 == x2) = false := by simpa using e1
    have d1' : (x1 != x2) = true := by simpa using e1
    have HE0 : Hid (parE ls ms = 80) := by
      show _ = _
      rw [HEE.out, if_pos]
      unfold apart
      rw [decide_eq_true_iff]
      exact ⟨hne1, hne2, by rw [← HX1.out, ← HX2.out]; exact e1⟩
    have HI : Hid (parI ls ms = 0) := by show _ = _; unfold parI; rw [HE0.out]; rfl
    have HB : Hid (parB ls ms = false) := by show _ = _; unfold parB; rw [HE0.out]; rfl
    clear F1 F2 HEE e1
    go_enter Tryd.func13, Tryd.ntmps13
    go_wp2_with fail
    refine HC1.out.mono ?_
    rintro e w1 ⟨rfl, u1⟩
    have U1 := Lib.hid u1
    clear u1
    go_wp2_with fail
    refine (HC2.out w1 U1.out).mono ?_
    rintro e w2 ⟨rfl, u2⟩
    have U2 : Hid (Up w w2) := Up.trans U1.out u2
    clear u2
    go_wp2_with fail
    haveI := UpW.some_ w2.drew
    have k1 : ∀ z : UpW w2.drew, z.w.cell? ⟨b1, o1, none⟩ = some (.int .i64 x1) := fun z => C1.out _ (Up.trans U2.out (Up.trans (Up.refl w2).drew z.up))
    have k2 : ∀ z : UpW w2.drew, z.w.cell? ⟨b2, o2, none⟩ = some (.int .i64 x2) := fun z => C2.out _ (Up.trans U2.out (Up.trans (Up.refl w2).drew z.up))
    refine wp_region_up_k (by kernel_rfl) (by kernel_rfl) ?_
    intro R hR
    repeat (first | go_big_quiet_step (fail) | quiet_step (fail))
    refine wpQuiet_nil (hR _ ?_)
    clear hR R
    rintro w4 ⟨z, hz⟩
    have U4 : Hid (Up w w4) := by show Up w w4; rw [hz]; exact Up.trans U2.out (Up.trans (Up.refl w2).drew z.up)
    clear hz
    clear k1 k2
    go_wp2_with fail
    go_ret3
    exact ⟨by rw [HI.out, HB.out, HE0.out] <;> rfl, U4.out⟩

end Go.Proofs.YtpafambdccejnaaDoor

namespace Go.Proofs.YtpafambdccejnaaDoor
open Go.RowKit
set_option linter.unusedVariables false

def clashB (a b : List Lk) : Bool := decide (txt a ≠ txt b ∧ hd a = hd b)

set_option maxRecDepth 100000 in
set_option maxHeartbeats 2000000 in
theorem clash_calls (p q : Option Addr) (n m c d : Nat) (ls ms : List Lk) (w : World) (hn : n = ls.length) (hm : m = ms.length) (hf : Few ls) (hg : Few ms) (h : Links w p ls) (h2 : Links w q ms) (htab : Tabs w) :
    Calls Tryd.prog 17 #[.slice p n c, .slice q m d] w fun e w' => e = .returned (.bool (clashB ls ms)) ∧ Up w w' := by
  have T1 := Lib.hid fun W (hu : Up w W) => rtext_calls p n c ls W hn hf (h.up hu)
  have T2 := Lib.hid fun W (hu : Up w W) => rtext_calls q m d ms W hm hg (h2.up hu)
  have H1 := Lib.hid fun W (hu : Up w W) => head_calls p n c ls W hn hf (h.up hu) (htab.up hu)
  have H2 := Lib.hid fun W (hu : Up w W) => head_calls q m d ms W hm hg (h2.up hu) (htab.up hu)
  have l1 := hd_len ls
  have l2 := hd_len ms
  have hq : ∀ w : World, (Op.equalIn 10000 35 (.agg (u8s (hd ls)).toArray) (.agg (u8s (hd ms)).toArray)).run Tryd.prog w = .ok (decide (hd ls = hd ms)) w := fun w => run_equalIn_digest 9998 _ _ w l1 l2
  obtain ⟨t1, ht1⟩ : ∃ t, t = (txt ls).1 := ⟨_, rfl⟩
  obtain ⟨t2, ht2⟩ : ∃ t, t = (txt ms).1 := ⟨_, rfl⟩
  obtain ⟨x1, hx1⟩ : ∃ t, t = (txt ls).2 := ⟨_, rfl⟩
  obtain ⟨x2, hx2⟩ : ∃ t, t = (txt ms).2 := ⟨_, rfl⟩
  rw [← ht1, ← hx1] at T1
  rw [← ht2, ← hx2] at T2
  have HC : Hid (clashB ls ms = decide ((t1 ≠ t2 ∨ x1 ≠ x2) ∧ hd ls = hd ms)) := by
    show _ = _
    unfold clashB
    rw [decide_eq_decide, ht1, ht2, hx1, hx2]
    constructor
    · rintro ⟨h1, h2⟩
      refine ⟨?_, h2⟩
      rcases Classical.em ((txt ls).1 = (txt ms).1) with h3 | h3
      · exact .inr fun h4 => h1 (Prod.ext h3 h4)
      · exact .inl h3
    · rintro ⟨h1, h2⟩
      refine ⟨fun e => ?_, h2⟩
      rw [e] at h1
      rcases h1 with h1 | h1 <;> exact h1 rfl
  obtain ⟨pe, hpe⟩ : ∃ pe, pe = decide (hd ls = hd ms) := ⟨_, rfl⟩
  rw [← hpe] at hq
  have HPE := Lib.hid hpe
  have he : ((bsOf x1).toList == (bsOf x2).toList) = decide (x1 = x2) := by
    rw [ByteArray.toList_eq, ByteArray.toList_eq, bsOf_list, bsOf_list, Bool.eq_iff_iff]; simp
  have ht : (t1.toList == t2.toList) = decide (t1 = t2) := by
    rw [ByteArray.toList_eq, ByteArray.toList_eq, Bool.eq_iff_iff]
    simp only [beq_iff_eq, decide_eq_true_eq]
    constructor
    · intro h
      cases t1; cases t2
      congr 1
      exact Array.toList_inj.1 h
    · rintro rfl; rfl
  have HE := Lib.hid he
  have HT := Lib.hid ht
  clear hn hm hf hg h h2 htab l1 l2 ht1 ht2 hx1 hx2 hpe he ht
  by_cases e1 : t1 = t2
  case neg =>
    have d1 : (t1.toList == t2.toList) = false := by rw [HT.out]; simpa using e1
    have HR : Hid (clashB ls ms = pe) := by show _ = _; rw [HC.out, HPE.out, decide_eq_decide]; exact ⟨fun h => h.2, fun h => ⟨.inl e1, h⟩⟩
    clear e1
    go_enter Tryd.func17, Tryd.ntmps17
    go_wp2_with fail
    refine (T1.out w (Up.refl _)).mono ?_
    rintro e w1 ⟨p1, m1, c1, rfl, hm1, u1, g1, g2, g3⟩
    have U1 := Lib.hid u1
    clear u1 g1 g2 g3 hm1
    go_wp2_with fail
    refine (T2.out w1 U1.out).mono ?_
    rintro e w2 ⟨p2, m2, c2, rfl, hm2, u2, g1, g2, g3⟩
    have U2 : Hid (Up w w2) := Up.trans U1.out u2
    clear u2 g1 g2 g3 hm2
    go_wp2_with fail
    refine (H1.out w2 U2.out).mono ?_
    rintro e w3 ⟨rfl, u3⟩
    have U3 : Hid (Up w w3) := Up.trans U2.out u3
    clear u3
    go_wp2_with fail
    refine (H2.out w3 U3.out).mono ?_
    rintro e w4 ⟨rfl, u4⟩
    have U4 : Hid (Up w w4) := Up.trans U3.out u4
    clear u4
    go_wp2_with fail
    go_ret
    exact ⟨by rw [HR.out] <;> rfl, U4.out⟩
  have d1 : (t1.toList == t2.toList) = true := by rw [HT.out]; simpa using e1
  by_cases e2 : x1 = x2
  case neg =>
    have d2 : ((bsOf x1).toList == (bsOf x2).toList) = false := by rw [HE.out]; simpa using e2
    have HR : Hid (clashB ls ms = pe) := by show _ = _; rw [HC.out, HPE.out, decide_eq_decide]; exact ⟨fun h => h.2, fun h => ⟨.inr e2, h⟩⟩
    clear e1 e2
    go_enter Tryd.func17, Tryd.ntmps17
    go_wp2_with fail
    refine (T1.out w (Up.refl _)).mono ?_
    rintro e w1 ⟨p1, m1, c1, rfl, hm1, u1, g1, g2, g3⟩
    have U1 := Lib.hid u1
    have B1 := Lib.hid g3
    have M1 := Lib.hid hm1
    clear u1 g1 g2 g3 hm1
    go_wp2_with fail
    refine (T2.out w1 U1.out).mono ?_
    rintro e w2 ⟨p2, m2, c2, rfl, hm2, u2, g1, g2, g3⟩
    have U2 : Hid (Up w w2) := Up.trans U1.out u2
    have r1 := run_text_of w2 p1 c1 x1 (B1.out.up u2)
    have r2 := run_text_of w2 p2 c2 x2 g3
    rw [← M1.out] at r1
    rw [← hm2] at r2
    clear u2 g1 g2 g3 hm2
    go_wp2_with fail
    refine (H1.out w2 U2.out).mono ?_
    rintro e w3 ⟨rfl, u3⟩
    have U3 : Hid (Up w w3) := Up.trans U2.out u3
    clear u3 r1 r2
    go_wp2_with fail
    refine (H2.out w3 U3.out).mono ?_
    rintro e w4 ⟨rfl, u4⟩
    have U4 : Hid (Up w w4) := Up.trans U3.out u4
    clear u4
    go_wp2_with fail
    go_ret
    exact ⟨by rw [HR.out] <;> rfl, U4.out⟩
  · have d2 : ((bsOf x1).toList == (bsOf x2).toList) = true := by rw [HE.out]; simpa using e2
    have HR : Hid (clashB ls ms = false) := by
      show _ = _
      rw [HC.out, decide_eq_false_iff_not]
      rintro ⟨h | h, _⟩
      · exact h e1
      · exact h e2
    clear e1 e2
    go_enter Tryd.func17, Tryd.ntmps17
    go_wp2_with fail
    refine (T1.out w (Up.refl _)).mono ?_
    rintro e w1 ⟨p1, m1, c1, rfl, hm1, u1, g1, g2, g3⟩
    have U1 := Lib.hid u1
    have B1 := Lib.hid g3
    have M1 := Lib.hid hm1
    clear u1 g1 g2 g3 hm1
    go_wp2_with fail
    refine (T2.out w1 U1.out).mono ?_
    rintro e w2 ⟨p2, m2, c2, rfl, hm2, u2, g1, g2, g3⟩
    have U2 : Hid (Up w w2) := Up.trans U1.out u2
    have r1 := run_text_of w2 p1 c1 x1 (B1.out.up u2)
    have r2 := run_text_of w2 p2 c2 x2 g3
    rw [← M1.out] at r1
    rw [← hm2] at r2
    clear u2 g1 g2 g3 hm2
    go_wp2_with fail
    go_ret
    exact ⟨by rw [HR.out] <;> rfl, U2.out⟩

end Go.Proofs.YtpafambdccejnaaDoor
