/- chapter 57: the law ProofsAccepted. -/
import Derived.Test.YtobcfhninchnkaaDoorLwA
namespace Go.Proofs.YtobcfhninchnkaaDoor
open Go Go.RowKit
set_option linter.unusedVariables false
set_option maxRecDepth 100000

theorem bl_le {x j : Nat} (h : x < 2 ^ j) : bl x ≤ j := by
  unfold bl
  split
  · omega
  · rename_i h0
    have := (Nat.log2_lt h0).2 h
    omega
theorem turns_bl : ∀ (k n i : Nat), n = k → (turnsS n i).length ≤ bl (n - 1) := by
  intro k
  induction k using Nat.strongRecOn with
  | ind k ih =>
    intro n i hn
    by_cases h : n ≤ 1
    · rw [turnsS_one i h]; simp
    · have h1 := hf_lt (n := n) (by omega)
      have h2 := hf_pos n
      have e : bl (n - 1) = Nat.log2 (n - 1) + 1 := by unfold bl; rw [if_neg (by omega)]
      have h3 : n - 1 < 2 ^ (Nat.log2 (n - 1) + 1) := (Nat.log2_lt (by omega)).1 (by omega)
      have h4 : hf n = 2 ^ Nat.log2 (n - 1) := rfl
      rw [Nat.pow_succ] at h3
      by_cases hi : i < hf n
      · rw [turnsS_left (by omega) hi, List.length_cons, e]
        have := ih (hf n) (by omega) (hf n) i rfl
        have := bl_le (x := hf n - 1) (j := Nat.log2 (n - 1)) (by omega)
        omega
      · rw [turnsS_right (by omega) (by omega), List.length_cons, e]
        have := ih (n - hf n) (by omega) (n - hf n) (i - hf n) rfl
        have := bl_le (x := n - hf n - 1) (j := Nat.log2 (n - 1)) (by omega)
        omega
theorem treeS_right {l : List Sh} (hne : l ≠ []) (hn : l.length ≤ 600) (hf : ∀ x ∈ l, fineB x = true) : rightB (treeS l) = true := by
  obtain ⟨h1, h2, h3, h4⟩ := treeS_sums l.length l rfl hne
  have a := sumOf_le Sh.litres 1099511627776 l fun x hx => (fineB_wf (hf x hx)).2.1
  have b := sumOf_le Sh.price 1099511627776 l fun x hx => (fineB_wf (hf x hx)).2.2.1
  have c := sumOf_le Sh.cut 1099511627776 l fun x hx => (fineB_wf (hf x hx)).2.2.2
  simp only [rightB, inB, Bool.and_eq_true, decide_eq_true_eq, h2, h3, h4]
  omega
theorem pathD_rightB : ∀ (k : Nat) (l : List Sh) (i : Nat), l.length = k → i < k → l.length ≤ 600 → (∀ x ∈ l, fineB x = true) → ∀ s ∈ pathD l i, rightB s = true := by
  intro k
  induction k using Nat.strongRecOn with
  | ind k ih =>
    intro l i hl hi hn hf'
    by_cases h : l.length ≤ 1
    · rw [pathD_one i h]; intro s hs; cases hs
    · have h1 := hf_lt (n := l.length) (by omega)
      have h2 := hf_pos l.length
      have f1 : ∀ x ∈ l.take (hf l.length), fineB x = true := fun x hx => hf' x (List.mem_of_mem_take hx)
      have f2 : ∀ x ∈ l.drop (hf l.length), fineB x = true := fun x hx => hf' x (List.mem_of_mem_drop hx)
      have l1 : (l.take (hf l.length)).length = hf l.length := by rw [List.length_take]; omega
      have l2 : (l.drop (hf l.length)).length = l.length - hf l.length := by rw [List.length_drop]
      have o1 := treeS_right (l := l.take (hf l.length)) (fun e => by rw [e] at l1; simp at l1; omega) (by omega) f1
      have o2 := treeS_right (l := l.drop (hf l.length)) (fun e => by rw [e] at l2; simp at l2; omega) (by omega) f2
      intro s hs
      by_cases hc : i < hf l.length
      · rw [pathD_left (by omega) hc] at hs
        rcases List.mem_cons.1 hs with rfl | hs
        · exact o2
        · exact ih (hf l.length) (by omega) (l.take (hf l.length)) i l1 hc (by omega) f1 s hs
      · rw [pathD_right (by omega) (by omega)] at hs
        rcases List.mem_cons.1 hs with rfl | hs
        · exact o1
        · exact ih (l.length - hf l.length) (by omega) (l.drop (hf l.length)) (i - hf l.length) l2 (by omega) (by omega) f2 s hs
/-- the share is accepted with its path -/
theorem accepted_plain (l : List Sh) (i : Nat) (hc : chkE l = 0) (hi : i < l.length) : climbE l.length i l[i] (provS l i) = 0 ∧ climbS l.length i l[i] (provS l i) = rootS l ∧ checkB (rootS l) l.length i l[i] (provS l i) = true ∧ (provS l i).length ≤ bl (l.length - 1) ∧ provE l i = 0 := by
  obtain ⟨h1, h2, h3⟩ := chkE_ok hc
  have hp : provE l i = 0 := by unfold provE; rw [if_neg (by omega), if_neg (by omega)]
  have hs : provS l i = pathS l i := by unfold provS; rw [hp, if_pos rfl, Int.toNat_natCast]
  rw [hs]
  have hlen : (pathS l i).length = (turnsS l.length i).length := by unfold pathS; rw [List.length_reverse]; exact (climb_path l.length l i rfl hi).1
  have hb : badClimb l.length i l[i] (pathS l i) = false := by
    unfold badClimb
    rw [Int.toNat_natCast, Int.toNat_natCast, h3 _ (List.getElem_mem hi), hlen]
    have : (pathS l i).all rightB = true := List.all_eq_true.2 fun s hs => pathD_rightB l.length l i rfl hi h2 h3 s (List.mem_reverse.1 hs)
    rw [this]; simp
  have e1 : climbE l.length i l[i] (pathS l i) = 0 := by unfold climbE; rw [if_neg (by omega), if_neg (by omega), hb]; rfl
  have e2 : climbS l.length i l[i] (pathS l i) = rootS l := by
    unfold climbS rootS
    rw [e1, if_pos rfl, if_pos hc, Int.toNat_natCast, Int.toNat_natCast]
    exact climb_pathS l i hi
  refine ⟨e1, e2, ?_, ?_, hp⟩
  · unfold checkB; rw [e1, e2]; simp
  · rw [hlen]; exact turns_bl l.length l.length i rfl

theorem built_zero : Tryd.prog.built 28 [] = some (smCells zeroS).toArray := by
  show _ = _
  kernel_rfl
theorem wpList_buildToG {P : Program} {ops : Array Oper} {rest : List Oper} {Q : Exit → Act → World → Prop} {a : Act} {w : World} {o : Oper} (hw : Region.wanted o (yielded ops a.tmps) = true) (t : TypeId) (parts : Array (Nat × Operand)) (ho : o.op = .build t parts)
    (cells : Array Value) (hf : P.built t (parts.map fun (i, x) => (i, a.eval x)).toList = some cells) (h : wpList P ops Q rest (a.put o.dst (.agg cells)) w) : wpList P ops Q (o :: rest) a w :=
  wpList_step fun K hK => by
    rw [if_pos hw]
    exact wp_buildTo t parts ho cells hf (hK _ _ h)

theorem provS_ok57 (l : List Sh) (i : Int) : (∀ s ∈ provS l i, s.ok) ∧ (provS l i).length ≤ 700 := by
  unfold provS
  by_cases h : provE l i = 0
  · rw [if_pos h]
    obtain ⟨h1, h2, h3⟩ := provE_zero h
    obtain ⟨h4, h5, h6⟩ := chkE_ok h1
    obtain ⟨a, b⟩ := pathD_ok l.length l i.toNat rfl h3 (by omega) h6
    unfold pathS
    refine ⟨fun s hs => a s (List.mem_reverse.1 hs), ?_⟩
    rw [List.length_reverse, b]
    have := turnsS_length l.length l.length i.toNat rfl
    omega
  · rw [if_neg h]
    exact ⟨fun s hs => (by cases hs), (by simp)⟩

set_option maxHeartbeats 4000000 in
theorem lawAcc_skip (p : Option Addr) (n c : Nat) (which : Int) (w : World) (htab : Tabs w) (h : (fewB n && decide (n ≠ 0)) = false) :
    Calls Tryd.prog 4 #[.slice p n c, .int .u8 which] w fun e w' => e = .returned (.bool true) ∧ Up w w' := by
  have SN := Lib.hid (sane57_calls w htab)
  have F1 := Lib.hid fun W => rfew_calls p n c W
  obtain ⟨b1, hb1⟩ : ∃ b, b = fewB n := ⟨_, rfl⟩
  rw [← hb1] at F1 h
  clear hb1 htab
  go_enter Tryd.func4, Tryd.ntmps4
  go_wp2_with fail
  refine SN.out.mono ?_
  rintro e w1 ⟨rfl, u1⟩
  have U1 := Lib.hid u1
  clear u1
  go_wp2_with fail
  refine (F1.out w1).mono ?_
  rintro e w2 ⟨rfl, rfl⟩
  cases b1
  case false =>
    go_wp2
    go_ret
    exact ⟨rfl, U1.out⟩
  have h0 : n = 0 := by simpa using h
  subst h0
  go_wp2
  go_ret
  exact ⟨rfl, U1.out⟩

set_option maxHeartbeats 4000000 in
theorem lawAcc_bad (p : Option Addr) (n c : Nat) (ls : List Sh) (k : Nat) (w : World) (htab : Tabs w) (hf : fewB n = true) (h0 : n ≠ 0) (hn : n = ls.length) (h1 : Shares w p ls) (hc : n ≤ c) (hcm : c ≤ maxLen) (hk : k < 256) (hck : chkE ls ≠ 0) :
    Calls Tryd.prog 4 #[.slice p n c, .int .u8 k] w fun e w' => e = .returned (.bool true) ∧ Up w w' := by
  have SN := Lib.hid (sane57_calls w htab)
  have F1 := Lib.hid fun W => rfew_calls p n c W
  rw [hf] at F1
  obtain ⟨i, hi⟩ : ∃ i, i = k % n := ⟨_, rfl⟩
  have hin : i < n := by rw [hi]; exact Nat.mod_lt _ (by omega)
  have RT := Lib.hid fun W (hu : Up w W) => root_calls p n c ls W hn (h1.up hu) hc hcm (htab.up hu)
  have PL := Lib.hid fun W (hu : Up w W) => prove_calls p n c ls i W hn (h1.up hu) hc hcm (htab.up hu)
  have e1 : provE ls i = chkE ls := by unfold provE; rw [if_pos hck]
  have e2 : provS ls i = [] := by unfold provS; rw [e1, if_neg hck]
  have e3 : rootS ls = zeroS := by unfold rootS; rw [if_neg hck]
  rw [e1, e2] at PL
  rw [e3] at RT
  obtain ⟨ee, hee⟩ : ∃ ee, ee = chkE ls := ⟨_, rfl⟩
  rw [← hee] at RT PL hck
  have d0 : ((n : Int) == 0) = false := by rw [beq_eq_false_iff_ne]; omega
  have d1 : (ee == 0) = false := by rw [beq_eq_false_iff_ne]; exact hck
  have d1' : (ee != 0) = true := by rw [bne_iff_ne]; exact hck
  have d2 : (ee == ee) = true := by simp
  have em : Int.tmod ((k : Nat) : Int) ((n : Nat) : Int) = ((i : Nat) : Int) := by rw [hi]; exact (Int.ofNat_tmod k n).symm
  have EQ := fun W => run_eql_sum zeroS zeroS W rfl rfl
  rw [show decide (zeroS = zeroS) = true by simp] at EQ
  have BZ := Lib.hid built_zero
  have Ds : Hid ((smCells zeroS).toArray.size = 35) := by show _ = _; simp [smCells, zeroS, u8s]
  have Dc : Hid ((smCells zeroS).toArray.all (·.oneCell') = true) := smCells_all _
  obtain ⟨D, hD⟩ : ∃ D, D = (smCells zeroS).toArray := ⟨_, rfl⟩
  rw [← hD] at RT EQ BZ Ds Dc
  clear hD e1 e2 e3 hee hck hf hi hn h1 htab
  go_enter Tryd.func4, Tryd.ntmps4
  go_wp2_with fail
  refine SN.out.mono ?_
  rintro e w1 ⟨rfl, u1⟩
  have U1 := Lib.hid u1
  clear u1 SN
  go_wp2_with fail
  refine (F1.out w1).mono ?_
  rintro e w2 ⟨rfl, rfl⟩
  go_wp2_with fail
  refine (RT.out _ U1.out).mono ?_
  rintro e w3 ⟨rfl, u3⟩
  have U3 : Hid (Up w w3) := Up.trans U1.out u3
  clear u3
  go_wp2_with (first | (refine wpList_allocG rfl 28 35 allocsSum rfl ?_; intro A7 au az ahz; obtain ⟨Z7, hZz, hbz⟩ := ahz; have AU7 := Lib.hid au; have HZ7 := Lib.hid hZz; have HB7 := Lib.hid hbz; clear au az hZz hbz) | (refine wpList_store_row rfl 28 (.tmp 5) (.tmp 30) rfl _ D rfl rfl 28 _ HB7.out (by rw [Ds.out]; rfl) (by rw [HZ7.out, Ds.out]) Dc.out ?_; refine wpList_named ?_; intro W7 hW7; (have un := setRow_upN hW7 AU7.out (Nat.le_refl _)); (have pn := setRow_named hW7 HB7.out); have P7 := Lib.hid pn; (have U7 : Hid (Up w W7) := Up.trans U3.out un); clear un pn hW7))
  refine (PL.out W7 U7.out).mono ?_
  rintro e w4 ⟨v1, rfl, o4, u4⟩
  obtain ⟨p1, c1, rfl, -, -, -, -⟩ := o4.form (fun x hx => by cases hx)
  have U4 : Hid (Up w w4) := Up.trans U7.out u4
  have P4 := Lib.hid ((u4.block _ (lt_of_block P7.out)).trans P7.out)
  clear o4 u4
  go_wp2_with (first | ((with_reducible show wpList _ _ _ (Oper.mk _ (Op.load _ (Operand.tmp 5)) _ _ _ _ :: _) _ _); refine wpList_load_arrG (by rfl) 28 (.tmp 5) rfl _ 0 rfl D _ (rangeAt_row P4.out) rfl rfl (by rw [Ds.out]; rfl) ?_) | ((with_reducible show wpList _ _ _ (Oper.mk _ (Op.build _ _) _ _ _ _ :: _) _ _); refine wpList_buildToG (by rfl) 28 #[] rfl D (by simpa using BZ.out) ?_))
  go_ret
  exact ⟨rfl, U4.out⟩

theorem sumOf_take_succ (f : Sh → Int) (l : List Sh) (r : Nat) (h : r < l.length) : sumOf f (l.take (r + 1)) = sumOf f (l.take r) + f l[r] := by
  unfold sumOf
  rw [List.take_succ_eq_append_getElem h, List.map_append, List.sum_append]
  simp
theorem sumOf_take_le (f : Sh → Int) (l : List Sh) (r : Nat) (hr : r ≤ 600) (h : ∀ x ∈ l, 0 ≤ f x ∧ f x ≤ 1099511627776) : 0 ≤ sumOf f (l.take r) ∧ sumOf f (l.take r) ≤ 659706976665600 := by
  have := sumOf_le f 1099511627776 (l.take r) (fun x hx => h x (List.mem_of_mem_take hx))
  have h2 : (l.take r).length ≤ r := by rw [List.length_take]; omega
  omega

set_option maxHeartbeats 8000000 in
theorem lawAcc_good (p : Option Addr) (n c : Nat) (ls : List Sh) (k : Nat) (w : World) (htab : Tabs w) (hf : fewB n = true) (h0 : n ≠ 0) (hn : n = ls.length) (h1 : Shares w p ls) (hc : n ≤ c) (hcm : c ≤ maxLen) (hk : k < 256) (hck : chkE ls = 0) :
    Calls Tryd.prog 4 #[.slice p n c, .int .u8 k] w fun e w' => e = .returned (.bool true) ∧ Up w w' := by
  have SN := Lib.hid (sane57_calls w htab)
  have F1 := Lib.hid fun W => rfew_calls p n c W
  rw [hf] at F1
  obtain ⟨i, hi⟩ : ∃ i, i = k % n := ⟨_, rfl⟩
  have hin : i < n := by rw [hi]; exact Nat.mod_lt _ (by omega)
  have hil : i < ls.length := by rw [← hn]; exact hin
  have RT := Lib.hid fun W (hu : Up w W) => root_calls p n c ls W hn (h1.up hu) hc hcm (htab.up hu)
  have PL := Lib.hid fun W (hu : Up w W) => prove_calls p n c ls i W hn (h1.up hu) hc hcm (htab.up hu)
  obtain ⟨hne, hl6, hfi⟩ := chkE_ok hck
  obtain ⟨a1, a2, a3, a4, a5⟩ := accepted_plain ls i hck hil
  obtain ⟨s1, s2, s3, s4⟩ := treeS_sums ls.length ls rfl hne
  have hrt : rootS ls = treeS ls := by unfold rootS; rw [if_pos hck]
  rw [← hrt] at s1 s2 s3 s4
  have hsh : ∀ s ∈ provS ls i, s.hash.length = 32 := fun s hs => by
    unfold provS at hs
    rw [a5, if_pos rfl] at hs
    exact ((pathD_ok ls.length ls i rfl hil (by omega) hfi).1 s (List.mem_reverse.1 hs)).hash
  rw [hck] at RT
  rw [a5] at PL
  rw [← hn] at a1 a2 a3 a4
  obtain ⟨x, hx⟩ : ∃ x, x = ls[i] := ⟨_, rfl⟩
  rw [← hx] at a1 a2 a3
  have CL := Lib.hid fun pp m cc W (hu : Up w W) (hm : m = (provS ls i).length) (hr : RowAt W pp 35 smCells (provS ls i)) (hc1 : m ≤ cc) (hc2 : cc ≤ maxLen) => climb_calls n i x pp m cc (provS ls i) W hm hsh hr hc1 hc2 (htab.up hu)
  have CK := Lib.hid fun pp m cc W (hu : Up w W) (hm : m = (provS ls i).length) (hr : RowAt W pp 35 smCells (provS ls i)) (hc1 : m ≤ cc) (hc2 : cc ≤ maxLen) => pfCheck_calls (rootS ls) n i x pp m cc (provS ls i) W s1 hm hsh hr hc1 hc2 (htab.up hu)
  rw [a1, a2] at CL
  rw [a3] at CK
  have BL := Lib.hid fun W => len_calls (n - 1) (by omega) W
  have HBL := Lib.hid a4
  obtain ⟨bln, hbln⟩ : ∃ b, b = bl (n - 1) := ⟨_, rfl⟩
  rw [← hbln] at BL HBL
  have EQ := fun W => run_eql_sum (rootS ls) (rootS ls) W s1 s1
  rw [show decide (rootS ls = rootS ls) = true by simp] at EQ
  have q1 := sm_c32 s1
  have q2 := sm_c33 s1
  have q3 := sm_c34 s1
  have Ds : Hid ((smCells (rootS ls)).toArray.size = 35) := by have := smCells_len s1; show _ = _; simpa using this
  have Dc : Hid ((smCells (rootS ls)).toArray.all (·.oneCell') = true) := smCells_all _
  obtain ⟨D, hD⟩ : ∃ D, D = (smCells (rootS ls)).toArray := ⟨_, rfl⟩
  rw [← hD] at RT EQ Ds Dc CL CK q1 q2 q3
  obtain ⟨T1, hT1⟩ : ∃ T, T = (rootS ls).litres := ⟨_, rfl⟩
  obtain ⟨T2, hT2⟩ : ∃ T, T = (rootS ls).price := ⟨_, rfl⟩
  obtain ⟨T3, hT3⟩ : ∃ T, T = (rootS ls).cut := ⟨_, rfl⟩
  rw [← hT1] at q1 s2
  rw [← hT2] at q2 s3
  rw [← hT3] at q3 s4
  have Q1 := Lib.hid q1
  have Q2 := Lib.hid q2
  have Q3 := Lib.hid q3
  have SS := Lib.hid (And.intro s2 (And.intro s3 s4))
  have d0 : ((n : Int) == 0) = false := by rw [beq_eq_false_iff_ne]; omega
  have em : Int.tmod ((k : Nat) : Int) ((n : Nat) : Int) = ((i : Nat) : Int) := by rw [hi]; exact (Int.ofNat_tmod k n).symm
  obtain ⟨b, o, rfl, hrg⟩ := h1 hne
  have hrg' := hrg
  have gi := hrg i hil
  rw [← hx] at gi
  have XI : Hid ((shCells x).size = 5) := by show _ = _; rfl
  obtain ⟨XA, hXA⟩ : ∃ X, X = shCells x := ⟨_, rfl⟩
  rw [← hXA] at gi CL CK XI
  have GI := Lib.hid gi
  have HRG := Lib.hid hrg'
  have HN := Lib.hid hn
  have HFI := Lib.hid hfi
  have hn6 : n ≤ 600 := by omega
  clear hD hT1 hT2 hT3 q1 q2 q3 s1 s2 s3 s4 a1 a2 a3 a4 a5 hck hf hi hn h1 htab hrg hrg' gi hXA hx hil hfi hl6 hne hrt hsh hbln
  go_enter Tryd.func4, Tryd.ntmps4
  go_wp2_with fail
  refine SN.out.mono ?_
  rintro e w1 ⟨rfl, u1⟩
  have U1 := Lib.hid u1
  clear u1 SN
  go_wp2_with fail
  refine (F1.out w1).mono ?_
  rintro e w2 ⟨rfl, rfl⟩
  go_wp2_with fail
  refine (RT.out _ U1.out).mono ?_
  rintro e w3 ⟨rfl, u3⟩
  have U3 : Hid (Up w w3) := Up.trans U1.out u3
  clear u3
  go_wp2_with (first | (refine wpList_allocG rfl 28 35 allocsSum rfl ?_; intro A7 au az ahz; obtain ⟨Z7, hZz, hbz⟩ := ahz; have AU7 := Lib.hid au; have HZ7 := Lib.hid hZz; have HB7 := Lib.hid hbz; clear au az hZz hbz) | (refine wpList_store_row rfl 28 (.tmp 5) (.tmp 30) rfl _ D rfl rfl 28 _ HB7.out (by rw [Ds.out]; rfl) (by rw [HZ7.out, Ds.out]) Dc.out ?_; refine wpList_named ?_; intro W7 hW7; (have un := setRow_upN hW7 AU7.out (Nat.le_refl _)); (have pn := setRow_named hW7 HB7.out); have P7 := Lib.hid pn; (have U7 : Hid (Up w W7) := Up.trans U3.out un); clear un pn hW7))
  obtain ⟨b5, hb5⟩ : ∃ b, b = w3.heap.size := ⟨_, rfl⟩
  rw [← hb5] at P7 ⊢
  clear hb5 HB7 AU7 HZ7
  refine (PL.out W7 U7.out).mono ?_
  rintro e w4 ⟨v1, rfl, o4, u4⟩
  obtain ⟨p1, c1, rfl, e1, e2, e3, -⟩ := o4.form (fun y hy => smCells_len ((provS_ok57 ls i).1 y hy).hash)
  have U4 : Hid (Up w w4) := Up.trans U7.out u4
  have P4 := Lib.hid ((u4.block _ (lt_of_block P7.out)).trans P7.out)
  obtain ⟨m1, hm1⟩ : ∃ m, m = (provS ls i).length := ⟨_, rfl⟩
  rw [← hm1] at e1 HBL ⊢
  have HM1 := Lib.hid hm1
  have R4 := Lib.hid e3
  have C4 := Lib.hid (And.intro e1 e2)
  clear o4 u4 e1 e2 e3 hm1
  go_wp2_with fail
  go_loopw [10, 11, 12, 55] (fun v10 v11 v12 v55 wq => ∃ (r : Nat) (A B C : Int), r ≤ n ∧ v55 = .int .i64 r ∧ v10 = .int .i64 A ∧ v11 = .int .i64 B ∧ v12 = .int .i64 C ∧ Hid (A = sumOf Sh.litres (ls.take r) ∧ B = sumOf Sh.price (ls.take r) ∧ C = sumOf Sh.cut (ls.take r)) ∧ Hid (Up w4 wq))
    (fun _ _ _ v55 _ => n - (intOf v55).toNat)
  case atStart => exact ⟨0, 0, 0, 0, by omega, rfl, rfl, rfl, rfl, ⟨rfl, rfl, rfl⟩, Up.refl _⟩
  case round =>
    obtain ⟨r, A, B, C, hr, rfl, rfl, rfl, rfl, HS, HU⟩ := hrel
    by_cases hlt : r < n
    case pos =>
      have hrl : r < ls.length := by rw [← HN.out]; exact hlt
      have g := HRG.out r hrl
      have b1 := sumOf_take_le Sh.litres ls r (by omega) (fun y hy => (fineB_wf (HFI.out y hy)).2.1)
      have b2 := sumOf_take_le Sh.price ls r (by omega) (fun y hy => (fineB_wf (HFI.out y hy)).2.2.1)
      have b3 := sumOf_take_le Sh.cut ls r (by omega) (fun y hy => (fineB_wf (HFI.out y hy)).2.2.2)
      rw [← HS.out.1] at b1
      rw [← HS.out.2.1] at b2
      rw [← HS.out.2.2] at b3
      have y1 := (fineB_wf (HFI.out _ (List.getElem_mem hrl))).2
      have s1 := sumOf_take_succ Sh.litres ls r hrl
      have s2 := sumOf_take_succ Sh.price ls r hrl
      have s3 := sumOf_take_succ Sh.cut ls r hrl
      obtain ⟨y, hy⟩ : ∃ y, y = ls[r] := ⟨_, rfl⟩
      rw [← hy] at g y1 s1 s2 s3
      rw [← HS.out.1] at s1
      rw [← HS.out.2.1] at s2
      rw [← HS.out.2.2] at s3
      have w1' : IntKind.i64.wrap (A + y.litres) = A + y.litres := IntWalk.i64_in _ (by omega)
      have w2' : IntKind.i64.wrap (B + y.price) = B + y.price := IntWalk.i64_in _ (by omega)
      have w3' : IntKind.i64.wrap (C + y.cut) = C + y.cut := IntWalk.i64_in _ (by omega)
      have HS2 : Hid (A + y.litres = sumOf Sh.litres (ls.take (r + 1)) ∧ B + y.price = sumOf Sh.price (ls.take (r + 1)) ∧ C + y.cut = sumOf Sh.cut (ls.take (r + 1))) := ⟨s1.symm, s2.symm, s3.symm⟩
      have G := Lib.hid (rangeAt_up (rangeAt_up g U4.out) HU.out)
      have Ys : Hid ((shCells y).size = 5) := by show _ = _; rfl
      have Yc : Hid ((shCells y).all (·.oneCell') = true) := shCells_all y
      have y11 : Hid ((shCells y)[1]? = some (.int .i64 y.litres)) := by show _ = _; rfl
      have y12 : Hid ((shCells y)[2]? = some (.int .i64 y.price)) := by show _ = _; rfl
      have y13 : Hid ((shCells y)[3]? = some (.int .i64 y.cut)) := by show _ = _; rfl
      obtain ⟨Y, hY⟩ : ∃ Y, Y = shCells y := ⟨_, rfl⟩
      rw [← hY] at G Ys Yc y11 y12 y13
      clear hY hy g y1 s1 s2 s3 b1 b2 b3 EQ em d0
      go_wp2_with (first | ((with_reducible show wpList _ _ _ (Oper.mk _ (Op.load _ (Operand.tmp 57)) _ _ _ _ :: _) _ _); refine wpList_load_arr rfl 38 (.tmp 57) rfl b (o + r * 5) rfl Y _ G.out rfl rfl (by rw [Ys.out]; rfl) ?_) | (refine wpList_allocG rfl 38 5 allocsShare rfl ?_; intro A9 au az ahz; obtain ⟨Z9, hZz, hbz⟩ := ahz; have AU9 := Lib.hid au; have HZ9 := Lib.hid hZz; have HB9 := Lib.hid hbz; clear au az hZz hbz) | (refine wpList_store_row rfl 38 (.tmp 14) (.tmp 58) rfl _ Y rfl rfl 38 _ HB9.out (by rw [Ys.out]; rfl) (by rw [HZ9.out, Ys.out]) Yc.out ?_))
      refine wp_named ?_
      intro W9 hW9
      have u9 : Up wr W9 := setRow_upN hW9 AU9.out (Nat.le_refl _)
      have p9 := setRow_named hW9 HB9.out
      obtain ⟨b14, hb14⟩ : ∃ b, b = wr.heap.size := ⟨_, rfl⟩
      rw [← hb14] at p9 ⊢
      have P9 := Lib.hid p9
      have U9 := Lib.hid u9
      have hz := Lib.hid fun (z : UpW W9.drew) => (Up.trans (Up.refl W9).drew z.up : Up W9 z.w)
      have hrow := fun (z : UpW W9.drew) => ((hz.out z).block _ (lt_of_block P9.out)).trans P9.out
      have k1 : ∀ z : UpW W9.drew, z.w.cell? ⟨b14, 1, none⟩ = some (.int .i64 y.litres) := fun z => (cell_of_row z.w b14 1 _ _ _ (hrow z)).trans y11.out
      have k2 : ∀ z : UpW W9.drew, z.w.cell? ⟨b14, 2, none⟩ = some (.int .i64 y.price) := fun z => (cell_of_row z.w b14 2 _ _ _ (hrow z)).trans y12.out
      have k3 : ∀ z : UpW W9.drew, z.w.cell? ⟨b14, 3, none⟩ = some (.int .i64 y.cut) := fun z => (cell_of_row z.w b14 3 _ _ _ (hrow z)).trans y13.out
      haveI := UpW.some_ W9.drew
      clear hrow hb14 p9 u9 hW9 HB9 HZ9 AU9
      refine wp_region_up_k (by kernel_rfl) (by kernel_rfl) ?_
      intro R HRR
      have HRR' := Lib.hid HRR
      clear HRR
      repeat (with_reducible refine wpQuiet_step (fun K hK => ?_); go_simp; with_reducible refine hK _ ?_; clear hK K)
      refine wpQuiet_nil ?_
      refine HRR'.out _ ?_
      rintro w10 ⟨z, hz10⟩
      have U10 : Hid (Up w4 w10) := by show Up _ _; rw [hz10]; exact Up.trans HU.out (Up.trans U9.out (hz.out z))
      clear hz10 HRR' hz k1 k2 k3 w1' w2' w3'
      go_wp2
      exact ⟨⟨r + 1, _, _, _, by omega, by go_num, rfl, rfl, rfl, HS2, U10⟩, by simp [intOf]; omega⟩
    case neg =>
      have hrn : r = n := by omega
      have HT1 : Hid (T1 = A ∧ T2 = B ∧ T3 = C) := by
        have h1 := HS.out
        have h2 := SS.out
        rw [List.take_of_length_le (by rw [← HN.out]; omega)] at h1
        exact ⟨h2.1.trans h1.1.symm, h2.2.1.trans h1.2.1.symm, h2.2.2.trans h1.2.2.symm⟩
      obtain ⟨rfl, rfl, rfl⟩ := HT1.out
      clear hrn HS HT1
      have UR : Hid (Up w wr) := Up.trans U4.out HU.out
      have PR := Lib.hid ((HU.out.block _ (lt_of_block P4.out)).trans P4.out)
      have RR := Lib.hid (R4.out.up HU.out)
      have GR := Lib.hid (rangeAt_up GI.out UR.out)
      go_wp2_with (first | ((with_reducible show wpList _ _ _ (Oper.mk _ (Op.load _ (Operand.tmp 78)) _ _ _ _ :: _) _ _); refine wpList_load_arr rfl 38 (.tmp 78) rfl b (o + i * 5) rfl XA _ GR.out rfl rfl (by rw [XI.out]; rfl) ?_))
      refine (CL.out p1 m1 c1 wr UR.out HM1.out RR.out C4.out.1 C4.out.2).mono ?_
      rintro e w11 ⟨rfl, u11⟩
      have U11 : Hid (Up w w11) := Up.trans UR.out u11
      have P11 := Lib.hid ((u11.block _ (lt_of_block PR.out)).trans PR.out)
      have R11 := Lib.hid (RR.out.up u11)
      have G11 := Lib.hid (rangeAt_up GR.out u11)
      clear u11 PR RR GR
      go_wp2_with (first | (refine wpList_allocG rfl 28 35 allocsSum rfl ?_; intro A12 au az ahz; obtain ⟨Z12, hZz, hbz⟩ := ahz; have AU12 := Lib.hid au; have HZ12 := Lib.hid hZz; have HB12 := Lib.hid hbz; clear au az hZz hbz) | (refine wpList_store_row rfl 28 (.tmp 15) (.tmp 82) rfl _ D rfl rfl 28 _ HB12.out (by rw [Ds.out]; rfl) (by rw [HZ12.out, Ds.out]) Dc.out ?_; refine wpList_named ?_; intro W12 hW12; (have un := setRow_upN hW12 AU12.out (Nat.le_refl _)); (have pn := setRow_named hW12 HB12.out); have PN := Lib.hid pn; have UN := Lib.hid un; clear un pn hW12))
      obtain ⟨b15, hb15⟩ : ∃ b, b = w11.heap.size := ⟨_, rfl⟩
      rw [← hb15] at PN ⊢
      have U12 : Hid (Up w W12) := Up.trans U11.out UN.out
      have P12 := Lib.hid ((UN.out.block _ (lt_of_block P11.out)).trans P11.out)
      have R12 := Lib.hid (R11.out.up UN.out)
      have G12 := Lib.hid (rangeAt_up G11.out UN.out)
      have hz := Lib.hid fun (z : UpW W12.drew) => (Up.trans (Up.refl W12).drew z.up : Up W12 z.w)
      have hrow := fun (z : UpW W12.drew) => ((hz.out z).block _ (lt_of_block P12.out)).trans P12.out
      have k1 : ∀ z : UpW W12.drew, z.w.cell? ⟨b5, 32, none⟩ = some (.int .i64 T1) := fun z => (cell_of_row z.w b5 32 _ _ _ (hrow z)).trans Q1.out
      have k2 : ∀ z : UpW W12.drew, z.w.cell? ⟨b5, 33, none⟩ = some (.int .i64 T2) := fun z => (cell_of_row z.w b5 33 _ _ _ (hrow z)).trans Q2.out
      have k3 : ∀ z : UpW W12.drew, z.w.cell? ⟨b5, 34, none⟩ = some (.int .i64 T3) := fun z => (cell_of_row z.w b5 34 _ _ _ (hrow z)).trans Q3.out
      haveI := UpW.some_ W12.drew
      obtain ⟨m, hm⟩ : ∃ m, m = n - 1 := ⟨_, rfl⟩
      rw [← hm] at BL
      have e1 : IntKind.i64.wrap ((n : Int) - 1) = (m : Int) := by rw [show (n : Int) - 1 = (m : Int) by omega]; exact IntWalk.i64_in _ (by omega)
      have e3 : IntKind.u64.wrap (m : Int) = (m : Int) := by show (m : Int) % 18446744073709551616 = m; omega
      have hbb := HBL.out
      have d9 : decide ((m1 : Int) ≤ (bln : Int)) = true := by simp; omega
      have BLU := Lib.hid fun W => (BL.out W).mono fun e w' (h : e = .returned (.int .i64 (bln : Nat)) ∧ w' = W) => (⟨h.1, by rw [h.2]; exact Up.refl W⟩ : e = .returned (.int .i64 (bln : Nat)) ∧ Up W w')
      have CKU := Lib.hid fun W (hu : Up W12 W) => CK.out p1 m1 c1 W (Up.trans U12.out hu) HM1.out (R12.out.up hu) C4.out.1 C4.out.2
      have hm700 : m ≤ 700 := by omega
      clear hrow hb15 HB12 HZ12 AU12 UN U11 P11 R11 G11 hm CL RT PL F1 BL CK
      refine wp_region_up_k (by kernel_rfl) (by kernel_rfl) ?_
      intro R HRR
      have HRR' := Lib.hid HRR
      clear HRR
      repeat (first | ((with_reducible show wpQuiet _ _ _ _ (Oper.mk _ (Op.load _ (Operand.tmp 15)) _ _ _ _ :: _) _); refine wpQuiet_load_arr (by rfl) 28 (.tmp 15) rfl b15 0 rfl D _ (fun w' hw' => by (obtain ⟨z, rfl⟩ := hw'; exact rangeAt_up (rangeAt_row PN.out) (hz.out z))) rfl rfl (by rw [Ds.out]; rfl) ?_) | ((with_reducible show wpQuiet _ _ _ _ (Oper.mk _ (Op.load _ (Operand.tmp 5)) _ _ _ _ :: _) _); refine wpQuiet_load_arr (by rfl) 28 (.tmp 5) rfl b5 0 rfl D _ (fun w' hw' => by (obtain ⟨z, rfl⟩ := hw'; exact rangeAt_up (rangeAt_row P12.out) (hz.out z))) rfl rfl (by rw [Ds.out]; rfl) ?_) | ((with_reducible show wpQuiet _ _ _ _ (Oper.mk _ (Op.load _ (Operand.tmp 102)) _ _ _ _ :: _) _); refine wpQuiet_load_arr (by rfl) 38 (.tmp 102) rfl b (o + i * 5) rfl XA _ (fun w' hw' => by (obtain ⟨z, rfl⟩ := hw'; exact rangeAt_up G12.out (hz.out z))) rfl rfl (by rw [XI.out]; rfl) ?_) | ((with_reducible show wpQuiet _ _ _ _ (Oper.mk (some 105) _ _ _ _ _ :: _) _); with_reducible refine wpQuiet_step (fun K hK => ?_); go_simp; apply Exists.intro; refine ⟨fun _ => ?_, hK _ ?_⟩; (go_at_call 15; with_reducible exact Calls.quiet_up (CKU.out _ (hz.out _))); clear hK K) | ((with_reducible show wpQuiet _ _ _ _ (Oper.mk (some 114) _ _ _ _ _ :: _) _); with_reducible refine wpQuiet_step (fun K hK => ?_); go_simp; apply Exists.intro; refine ⟨fun _ => ?_, hK _ ?_⟩; (go_at_call 16; with_reducible exact Calls.quiet_up (BLU.out _)); clear hK K) | (with_reducible refine wpQuiet_step (fun K hK => ?_); go_simp; with_reducible refine hK _ ?_; clear hK K))
      refine wpQuiet_nil ?_
      refine HRR'.out _ ?_
      rintro w13 ⟨z, hz13⟩
      have U13 : Hid (Up w w13) := by show Up _ _; rw [hz13]; exact Up.trans U12.out (hz.out z)
      clear hz13 HRR' hz k1 k2 k3
      go_wp2
      go_ret
      exact ⟨rfl, U13.out⟩

theorem lawAcc_calls (p : Option Addr) (n c : Nat) (ls : List Sh) (k : Nat) (w : World) (hn : n = ls.length) (h1 : RowAt w p 5 (fun x : Sh => (shCells x).toList) ls) (hc : n ≤ c) (hcm : c ≤ maxLen) (hk : k < 256) (t0 : Tab0 w) (t1 : Tab w) :
    Calls Tryd.prog 4 #[.slice p n c, .int .u8 k] w fun e w' => e = .returned (.bool true) ∧ Up w w' := by
  cases h : (fewB n && decide (n ≠ 0))
  · exact lawAcc_skip p n c k w ⟨t0, t1⟩ h
  · simp only [Bool.and_eq_true, decide_eq_true_eq] at h
    by_cases hck : chkE ls = 0
    · exact lawAcc_good p n c ls k w ⟨t0, t1⟩ h.1 h.2 hn h1 hc hcm hk hck
    · exact lawAcc_bad p n c ls k w ⟨t0, t1⟩ h.1 h.2 hn h1 hc hcm hk hck

end Go.Proofs.YtobcfhninchnkaaDoor
