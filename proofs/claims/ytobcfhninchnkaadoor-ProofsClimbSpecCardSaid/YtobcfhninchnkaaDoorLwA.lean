/- chapter 57: Few, Same; the plain laws of paths. -/
import Derived.Test.YtobcfhninchnkaaDoorPfF
namespace Go.Proofs.YtobcfhninchnkaaDoor
open Go Go.RowKit
set_option linter.unusedVariables false
set_option maxRecDepth 100000

def fewB (n : Nat) : Bool := decide (n ≤ 40) || (decide (600 < n) && decide (n ≤ 700))
set_option maxHeartbeats 1000000 in
theorem rfew_calls (p : Option Addr) (n c : Nat) (w : World) : Calls Tryd.prog 8 #[.slice p n c] w fun e w' => e = .returned (.bool (fewB n)) ∧ w' = w := by
  by_cases h1 : n ≤ 40
  · have hv : fewB n = true := by simp [fewB, h1]
    have d1 : decide ((n : Int) ≤ 40) = true := by simp; omega
    rw [hv]
    clear hv h1
    go_enter Tryd.func8, Tryd.ntmps8
    go_wp2
    go_ret
    exact ⟨rfl, rfl⟩
  have d1 : decide ((n : Int) ≤ 40) = false := by simp; omega
  by_cases h2 : 600 < n
  · have d2 : decide ((600 : Int) < (n : Int)) = true := by simp; omega
    by_cases h3 : n ≤ 700
    · have hv : fewB n = true := by simp [fewB, h2, h3]
      have d3 : decide ((n : Int) ≤ 700) = true := by simp; omega
      rw [hv]
      clear hv h1 h2 h3
      go_enter Tryd.func8, Tryd.ntmps8
      go_wp2
      go_ret
      exact ⟨rfl, rfl⟩
    · have hv : fewB n = false := by simp [fewB, h1, h3]
      have d3 : decide ((n : Int) ≤ 700) = false := by simp; omega
      rw [hv]
      clear hv h1 h2 h3
      go_enter Tryd.func8, Tryd.ntmps8
      go_wp2
      go_ret
      exact ⟨rfl, rfl⟩
  · have d2 : decide ((600 : Int) < (n : Int)) = false := by simp; omega
    have hv : fewB n = false := by simp [fewB, h1, h2]
    rw [hv]
    clear hv h1 h2
    go_enter Tryd.func8, Tryd.ntmps8
    go_wp2
    go_ret
    exact ⟨rfl, rfl⟩

set_option maxHeartbeats 2000000 in
theorem rsame_calls (p q : Option Addr) (n m c d : Nat) (l k : List Sm) (w : World) (hn : n = l.length) (hm : m = k.length) (hl : ∀ s ∈ l, s.hash.length = 32) (hk : ∀ s ∈ k, s.hash.length = 32) (h1 : RowAt w p 35 smCells l) (h2 : RowAt w q 35 smCells k) (hnm : n ≤ 100000) :
    Calls Tryd.prog 13 #[.slice p n c, .slice q m d] w fun e w' => e = .returned (.bool (decide (l = k))) ∧ Up w w' := by
  by_cases hlen : n = m
  case neg =>
    have hv : decide (l = k) = false := decide_eq_false fun e => hlen (by rw [hn, hm, e])
    have d1 : (((n : Nat) : Int) != ((m : Nat) : Int)) = true := by rw [bne_iff_ne]; omega
    rw [hv]
    clear hv hn hm
    go_enter Tryd.func13, Tryd.ntmps13
    go_wp2
    go_ret
    exact ⟨rfl, Up.refl _⟩
  subst hlen
  obtain ⟨V, hV⟩ : ∃ V, V = decide (l = k) := ⟨_, rfl⟩
  rw [← hV]
  have HV := Lib.hid hV
  have HN := Lib.hid hn
  have HM := Lib.hid hm
  have HL := Lib.hid hl
  have HK := Lib.hid hk
  have R1 := Lib.hid h1
  have R2 := Lib.hid h2
  clear hV hn hm hl hk h1 h2
  go_enter Tryd.func13, Tryd.ntmps13
  go_wp2
  go_loopw [5] (fun v5 wq => ∃ i : Nat, i ≤ n ∧ v5 = .int .i64 i ∧ Hid (l.take i = k.take i) ∧ Hid (Up w wq)) (fun v5 _ => n - (intOf v5).toNat)
  case atStart => exact ⟨0, by omega, rfl, by simp [Lib.hid], Up.refl _⟩
  case round =>
    obtain ⟨i, hi, rfl, HT, HU⟩ := hrel
    by_cases hlt : i < n
    case neg =>
      have hv : V = true := by
        rw [HV.out, decide_eq_true_eq]
        have := HT.out
        rw [List.take_of_length_le (by rw [← HN.out]; omega), List.take_of_length_le (by rw [← HM.out]; omega)] at this
        exact this
      subst hv
      go_wp2
      go_ret
      exact ⟨rfl, HU.out⟩
    have hil : i < l.length := by rw [← HN.out]; exact hlt
    have hik : i < k.length := by rw [← HM.out]; exact hlt
    obtain ⟨b1, o1, rfl, hr1⟩ := R1.out (by rintro rfl; simp at hil)
    obtain ⟨b2, o2, rfl, hr2⟩ := R2.out (by rintro rfl; simp at hik)
    have g1 := rangeAt_up (hr1 i hil) HU.out
    have g2 := rangeAt_up (hr2 i hik) HU.out
    have hx := HL.out _ (List.getElem_mem hil)
    have hy := HK.out _ (List.getElem_mem hik)
    have htk1 := List.take_succ_eq_append_getElem hil
    have htk2 := List.take_succ_eq_append_getElem hik
    have hne : l[i] ≠ k[i] → V = false := fun hne => by
      rw [HV.out]
      exact decide_eq_false fun e => hne (by simp only [e])
    obtain ⟨x, hxx⟩ : ∃ x, x = l[i] := ⟨_, rfl⟩
    obtain ⟨y, hyy⟩ : ∃ y, y = k[i] := ⟨_, rfl⟩
    rw [← hxx] at g1 hx htk1 hne
    rw [← hyy] at g2 hy htk2 hne
    have EQ := fun W => run_neq_sum x y W hx hy
    have As : Hid ((smCells x).toArray.size = 35) := by have := smCells_len hx; show _ = _; simpa using this
    have Bs : Hid ((smCells y).toArray.size = 35) := by have := smCells_len hy; show _ = _; simpa using this
    have G1 := Lib.hid (show wr.rangeAt b1 (o1 + i * 35) (smCells x).toArray.toList from g1)
    have G2 := Lib.hid (show wr.rangeAt b2 (o2 + i * 35) (smCells y).toArray.toList from g2)
    obtain ⟨A, hA⟩ : ∃ A, A = (smCells x).toArray := ⟨_, rfl⟩
    obtain ⟨B, hB⟩ : ∃ B, B = (smCells y).toArray := ⟨_, rfl⟩
    rw [← hA] at EQ As G1
    rw [← hB] at EQ Bs G2
    obtain ⟨bb, hbb⟩ : ∃ bb, bb = (!decide (x = y)) := ⟨_, rfl⟩
    rw [← hbb] at EQ
    have HBB := Lib.hid hbb
    have HNE := Lib.hid hne
    have H1 := Lib.hid htk1
    have H2 := Lib.hid htk2
    clear hA hB hbb hne htk1 htk2 hxx hyy hx hy g1 g2 hr1 hr2
    go_wp2_with fail
    haveI := UpW.some_ wr.drew
    have hz := Lib.hid fun (z : UpW wr.drew) => (Up.trans (Up.refl wr).drew z.up : Up wr z.w)
    refine wp_region_up_k (by kernel_rfl) (by kernel_rfl) ?_
    intro R HRR
    have HRR' := Lib.hid HRR
    clear HRR
    repeat (first | ((with_reducible show wpQuiet _ _ _ _ (Oper.mk _ (Op.load _ (Operand.tmp 19)) _ _ _ _ :: _) _); refine wpQuiet_load_arr (by rfl) 28 (.tmp 19) rfl b1 (o1 + i * 35) rfl A _ (fun w' hw' => by (obtain ⟨z, rfl⟩ := hw'; exact rangeAt_up G1.out (hz.out z))) rfl rfl (by rw [As.out]; rfl) ?_) | ((with_reducible show wpQuiet _ _ _ _ (Oper.mk _ (Op.load _ (Operand.tmp 23)) _ _ _ _ :: _) _); refine wpQuiet_load_arr (by rfl) 28 (.tmp 23) rfl b2 (o2 + i * 35) rfl B _ (fun w' hw' => by (obtain ⟨z, rfl⟩ := hw'; exact rangeAt_up G2.out (hz.out z))) rfl rfl (by rw [Bs.out]; rfl) ?_) | (refine wpQuiet_step (fun K hK => ?_); go_simp; refine hK _ ?_; clear hK K))
    refine wpQuiet_nil ?_
    refine HRR'.out _ ?_
    rintro w4 ⟨z, hz4⟩
    have U4 : Hid (Up w w4) := by show Up _ _; rw [hz4]; exact Up.trans HU.out (hz.out z)
    clear hz4 HRR' hz EQ
    cases bb
    case true =>
      have hv : V = false := HNE.out (fun e => by have := HBB.out; simp [e] at this)
      subst hv
      go_wp2
      go_ret
      exact ⟨rfl, U4.out⟩
    have hxy : x = y := by have := HBB.out; simpa using this
    have HT2 : Hid (l.take (i + 1) = k.take (i + 1)) := by show _ = _; rw [H1.out, H2.out, HT.out, hxy]
    clear hxy
    go_wp2
    exact ⟨⟨i + 1, by omega, by go_num, HT2, U4⟩, by simp [intOf]; omega⟩

/-! ### plain: a path leads to the tree -/
theorem climbAt_append : ∀ (A : List (Nat × Nat)) (B : List Sm) (s : Sm) (X : List (Nat × Nat)) (Y : List Sm) (r : Nat), A.length = B.length → r ≤ B.length → climbAt s (A ++ X) (B ++ Y) r = climbAt s A B r
  | _, _, s, _, _, 0, _, _ => by rw [climbAt_zero, climbAt_zero]
  | t :: A, p :: B, s, X, Y, r + 1, h, hr => by
    rw [List.cons_append, List.cons_append, climbAt, climbAt]
    exact climbAt_append A B _ X Y r (by simpa using h) (by simpa using hr)
  | [], [], s, X, Y, r + 1, _, hr => by simp at hr
theorem climbAt_snoc (A : List (Nat × Nat)) (B : List Sm) (s : Sm) (t : Nat × Nat) (p : Sm) (h : A.length = B.length) : climbAt s (A ++ [t]) (B ++ [p]) (B.length + 1) = upSum t p (climbAt s A B B.length) := by
  rw [climbAt_succ _ _ _ B.length (by simp [h]) (by simp)]
  rw [climbAt_append A B s [t] [p] B.length h (Nat.le_refl _)]
  have e1 : (A ++ [t])[B.length]'(by simp [h]) = t := by simp [← h]
  have e2 : (B ++ [p])[B.length]'(by simp) = p := by simp
  rw [e1, e2]
theorem climb_path : ∀ (k : Nat) (l : List Sh) (i : Nat) (hl : l.length = k) (hi : i < l.length), (pathD l i).length = (turnsS k i).length ∧ climbAt (leafS l[i]) (turnsS k i).reverse (pathD l i).reverse (pathD l i).length = treeS l := by
  intro k
  induction k using Nat.strongRecOn with
  | ind k ih =>
    intro l i hl hi
    by_cases h : l.length ≤ 1
    · rw [pathD_one i h, turnsS_one i (by omega)]
      match l, hi, h with
      | [x], hi, h =>
        have : i = 0 := by simp at hi; omega
        subst this
        exact ⟨rfl, by simp [climbAt, treeS_one]⟩
    · have h1 := hf_lt (n := l.length) (by omega)
      have h2 := hf_pos l.length
      have l1 : (l.take (hf l.length)).length = hf l.length := by rw [List.length_take]; omega
      have l2 : (l.drop (hf l.length)).length = l.length - hf l.length := by rw [List.length_drop]
      by_cases hc : i < hf l.length
      · obtain ⟨a, b⟩ := ih (hf l.length) (by omega) (l.take (hf l.length)) i l1 (by omega)
        rw [List.getElem_take] at b
        rw [pathD_left (by omega) hc, ← hl, turnsS_left (by omega) hc]
        refine ⟨by rw [List.length_cons, List.length_cons, a], ?_⟩
        rw [List.reverse_cons, List.reverse_cons, List.length_cons]
        have := climbAt_snoc (turnsS (hf l.length) i).reverse (pathD (l.take (hf l.length)) i).reverse (leafS l[i]) (hf l.length, 1) (treeS (l.drop (hf l.length))) (by simp [a])
        rw [List.length_reverse] at this
        rw [this, b, treeS_two (l := l) (by omega)]
        simp [upSum, sideA, sideB]
      · obtain ⟨a, b⟩ := ih (l.length - hf l.length) (by omega) (l.drop (hf l.length)) (i - hf l.length) l2 (by omega)
        have e : (l.drop (hf l.length))[i - hf l.length]'(by omega) = l[i] := by
          rw [List.getElem_drop]
          congr 1
          omega
        rw [e] at b
        rw [pathD_right (by omega) (by omega), ← hl, turnsS_right (by omega) (by omega)]
        refine ⟨by rw [List.length_cons, List.length_cons, a], ?_⟩
        rw [List.reverse_cons, List.reverse_cons, List.length_cons]
        have := climbAt_snoc (turnsS (l.length - hf l.length) (i - hf l.length)).reverse (pathD (l.drop (hf l.length)) (i - hf l.length)).reverse (leafS l[i]) (hf l.length, 0) (treeS (l.take (hf l.length))) (by simp [a])
        rw [List.length_reverse] at this
        rw [this, b, treeS_two (l := l) (by omega)]
        simp [upSum, sideA, sideB]
theorem climb_pathS (l : List Sh) (i : Nat) (hi : i < l.length) : climbAt (leafS l[i]) (turnsS l.length i).reverse (pathS l i) (pathS l i).length = treeS l := by
  have := (climb_path l.length l i rfl hi).2
  unfold pathS
  rw [List.length_reverse]
  exact this

end Go.Proofs.YtobcfhninchnkaaDoor
