/- chapter 57: the law ProofsHidden. -/
import Derived.Test.YtobcfhninchnkaaDoorLwA
namespace Go.Proofs.YtobcfhninchnkaaDoor
open Go Go.RowKit
set_option linter.unusedVariables false
set_option maxRecDepth 100000

theorem provS_ok (l : List Sh) (i : Int) : (∀ s ∈ provS l i, s.ok) ∧ (provS l i).length ≤ 700 := by
  unfold provS
  by_cases h : provE l i = 0
  · rw [if_pos h]
    obtain ⟨h1, h2, h3⟩ := provE_zero h
    obtain ⟨h4, h5, h6⟩ := chkE_ok h1
    obtain ⟨a, b⟩ := pathD_ok l.length l i.toNat rfl h3 (by omega) h6
    unfold pathS
    refine ⟨fun s hs => a s (List.mem_reverse.1 hs), ?_⟩
    rw [List.length_reverse, b]
    have := turnsS_length l.length l.length i.toNat rfl
    omega
  · rw [if_neg h]
    exact ⟨fun s hs => (by cases hs), (by simp)⟩
theorem hidden_plain (ls ms : List Sh) (i : Nat) (hn : ms.length = ls.length) (h1 : provE ls i = 0) (h2 : provE ms i = 0) (hi : i < ls.length) (hj : i < ms.length) (hx : ls[i] = ms[i]) (hp : provS ls i = provS ms i) : chkE ls = 0 ∧ chkE ms = 0 ∧ rootS ls = rootS ms := by
  obtain ⟨c1, _, _⟩ := provE_zero h1
  obtain ⟨c2, _, _⟩ := provE_zero h2
  refine ⟨c1, c2, ?_⟩
  unfold provS at hp
  rw [h1, h2, if_pos rfl, if_pos rfl, Int.toNat_natCast] at hp
  have a := climb_pathS ls i hi
  have b := climb_pathS ms i hj
  rw [← hp, hn, ← hx] at b
  unfold rootS
  rw [if_pos c1, if_pos c2, ← a, ← b]

set_option maxHeartbeats 4000000 in
theorem lawHidden_skip (p q : Option Addr) (n m c d : Nat) (which : Int) (w : World) (htab : Tabs w) (h : (fewB n && fewB m && decide (n ≠ 0) && decide (m = n)) = false) :
    Calls Tryd.prog 5 #[.slice p n c, .slice q m d, .int .u8 which] w fun e w' => e = .returned (.bool true) ∧ Up w w' := by
  have SN := Lib.hid (sane57_calls w htab)
  have F1 := Lib.hid fun W => rfew_calls p n c W
  have F2 := Lib.hid fun W => rfew_calls q m d W
  obtain ⟨b1, hb1⟩ : ∃ b, b = fewB n := ⟨_, rfl⟩
  obtain ⟨b2, hb2⟩ : ∃ b, b = fewB m := ⟨_, rfl⟩
  rw [← hb1] at F1 h
  rw [← hb2] at F2 h
  clear hb1 hb2 htab
  go_enter Tryd.func5, Tryd.ntmps5
  go_wp2_with fail
  refine SN.out.mono ?_
  rintro e w1 ⟨rfl, u1⟩
  have U1 := Lib.hid u1
  clear u1
  go_wp2_with fail
  refine (F1.out w1).mono ?_
  rintro e w2 ⟨rfl, rfl⟩
  cases b1
  case false =>
    go_wp2
    go_ret
    exact ⟨rfl, U1.out⟩
  go_wp2_with fail
  refine (F2.out _).mono ?_
  rintro e w2 ⟨rfl, rfl⟩
  cases b2
  case false =>
    go_wp2
    go_ret
    exact ⟨rfl, U1.out⟩
  by_cases h0 : n = 0
  · subst h0
    go_wp2
    go_ret
    exact ⟨rfl, U1.out⟩
  have d0 : ((n : Int) == 0) = false := by rw [beq_eq_false_iff_ne]; omega
  have hmn : m ≠ n := by simpa [h0] using h
  have d1 : ((m : Int) != (n : Int)) = true := by rw [bne_iff_ne]; omega
  go_wp2
  go_ret
  exact ⟨rfl, U1.out⟩

set_option maxHeartbeats 4000000 in
theorem lawHidden_go (p q : Option Addr) (n c d : Nat) (ls ms : List Sh) (k : Nat) (w : World) (htab : Tabs w) (hf : fewB n = true) (h0 : n ≠ 0) (hn : n = ls.length) (hm : n = ms.length) (h1 : Shares w p ls) (h2 : Shares w q ms) (hc : n ≤ c) (hcm : c ≤ maxLen) (hd : n ≤ d) (hdm : d ≤ maxLen) (hk : k < 256) :
    Calls Tryd.prog 5 #[.slice p n c, .slice q n d, .int .u8 k] w fun e w' => e = .returned (.bool true) ∧ Up w w' := by
  have SN := Lib.hid (sane57_calls w htab)
  have F1 := Lib.hid fun W => rfew_calls p n c W
  have F2 := Lib.hid fun W => rfew_calls q n d W
  rw [hf] at F1 F2
  have hn7 : n ≤ 700 := by simp only [fewB, Bool.or_eq_true, Bool.and_eq_true, decide_eq_true_eq] at hf; omega
  obtain ⟨i, hi⟩ : ∃ i, i = k % n := ⟨_, rfl⟩
  have hin : i < n := by rw [hi]; exact Nat.mod_lt _ (by omega)
  have PL := Lib.hid fun W (hu : Up w W) => prove_calls p n c ls i W hn (h1.up hu) hc hcm (htab.up hu)
  have PM := Lib.hid fun W (hu : Up w W) => prove_calls q n d ms i W hm (h2.up hu) hd hdm (htab.up hu)
  have d0 : ((n : Int) == 0) = false := by rw [beq_eq_false_iff_ne]; omega
  have d1 : ((n : Int) != (n : Int)) = false := by simp
  have em : Int.tmod ((k : Nat) : Int) ((n : Nat) : Int) = ((i : Nat) : Int) := by rw [hi]; exact (Int.ofNat_tmod k n).symm
  have HN := Lib.hid hn
  have HM := Lib.hid hm
  have S1 := Lib.hid h1
  have S2 := Lib.hid h2
  have HT := Lib.hid htab
  clear hf hi hn hm h1 h2 htab
  go_enter Tryd.func5, Tryd.ntmps5
  go_wp2_with fail
  refine SN.out.mono ?_
  rintro e w1 ⟨rfl, u1⟩
  have U1 := Lib.hid u1
  clear u1 SN
  go_wp2_with fail
  refine (F1.out w1).mono ?_
  rintro e w2 ⟨rfl, rfl⟩
  go_wp2_with fail
  refine (F2.out _).mono ?_
  rintro e w2 ⟨rfl, rfl⟩
  clear F1 F2
  go_wp2_with fail
  refine (PL.out _ U1.out).mono ?_
  rintro e w3 ⟨v1, rfl, o3, u3⟩
  obtain ⟨p1, c1, rfl, -, -, r1, -⟩ := o3.form (fun x hx => smCells_len ((provS_ok ls i).1 x hx).hash)
  have U3 : Hid (Up w w3) := Up.trans U1.out u3
  have R1 := Lib.hid r1
  clear o3 u3 r1
  go_wp2_with fail
  refine (PM.out _ U3.out).mono ?_
  rintro e w4 ⟨v2, rfl, o4, u4⟩
  obtain ⟨p2, c2, rfl, -, -, r2, -⟩ := o4.form (fun x hx => smCells_len ((provS_ok ms i).1 x hx).hash)
  have U4 : Hid (Up w w4) := Up.trans U3.out u4
  have R1b := Lib.hid (R1.out.up u4)
  have R2 := Lib.hid r2
  clear o4 u4 r2 R1 PL PM
  have hPH := hidden_plain ls ms i (by rw [← HN.out, ← HM.out])
  have HPH := Lib.hid hPH
  have SAME := Lib.hid fun W (hu : Up w4 W) => rsame_calls p1 p2 _ _ c1 c2 (provS ls i) (provS ms i) W rfl rfl (fun s hs => ((provS_ok ls i).1 s hs).hash) (fun s hs => ((provS_ok ms i).1 s hs).hash) (R1b.out.up hu) (R2.out.up hu) (by have := (provS_ok ls i).2; omega)
  obtain ⟨n1, hn1⟩ : ∃ x, x = (provS ls i).length := ⟨_, rfl⟩
  obtain ⟨n2, hn2⟩ : ∃ x, x = (provS ms i).length := ⟨_, rfl⟩
  rw [← hn1, ← hn2] at SAME
  rw [← hn1, ← hn2]
  obtain ⟨e1, he1⟩ : ∃ x, x = provE ls i := ⟨_, rfl⟩
  obtain ⟨e2, he2⟩ : ∃ x, x = provE ms i := ⟨_, rfl⟩
  rw [← he1, ← he2]
  have HE1 := Lib.hid he1
  have HE2 := Lib.hid he2
  obtain ⟨sm, hsm⟩ : ∃ x, x = decide (provS ls i = provS ms i) := ⟨_, rfl⟩
  rw [← hsm] at SAME
  have HSM := Lib.hid hsm
  obtain ⟨bp, op, rfl, hr1⟩ := S1.out (by intro e; have := HN.out; rw [e] at this; simp at this; omega)
  obtain ⟨bq, oq, rfl, hr2⟩ := S2.out (by intro e; have := HM.out; rw [e] at this; simp at this; omega)
  have g1 := hr1 i (by rw [← HN.out]; exact hin)
  have g2 := hr2 i (by rw [← HM.out]; exact hin)
  have EQ := fun W => run_neq_share (ls[i]'(by rw [← HN.out]; exact hin)) (ms[i]'(by rw [← HM.out]; exact hin)) W
  obtain ⟨nb, hnb⟩ : ∃ x, x = (!decide (ls[i]'(by rw [← HN.out]; exact hin) = ms[i]'(by rw [← HM.out]; exact hin))) := ⟨_, rfl⟩
  rw [← hnb] at EQ
  have HNB := Lib.hid hnb
  obtain ⟨A, hA⟩ : ∃ A, A = shCells (ls[i]'(by rw [← HN.out]; exact hin)) := ⟨_, rfl⟩
  obtain ⟨B, hB⟩ : ∃ B, B = shCells (ms[i]'(by rw [← HM.out]; exact hin)) := ⟨_, rfl⟩
  have As : Hid (A.size = 5) := by show _ = _; rw [hA]; rfl
  have Bs : Hid (B.size = 5) := by show _ = _; rw [hB]; rfl
  rw [← hA] at g1 EQ
  rw [← hB] at g2 EQ
  have G1 := Lib.hid (rangeAt_up g1 U4.out)
  have G2 := Lib.hid (rangeAt_up g2 U4.out)
  clear hA hB hnb hn1 hn2 he1 he2 hsm g1 g2 hr1 hr2 hPH R1b R2
  by_cases h1 : e1 = 0
  case neg =>
    have d2 : (e1 != 0) = true := by rw [bne_iff_ne]; exact h1
    clear h1 EQ
    go_wp2_with fail
    refine wp_region_up_k (by kernel_rfl) (by kernel_rfl) ?_
    intro R HRR
    have HRR' := Lib.hid HRR
    clear HRR
    have hz := Lib.hid fun (z : UpW w4.drew) => (Up.trans (Up.refl w4).drew z.up : Up w4 z.w)
    haveI := UpW.some_ w4.drew
    repeat (first | ((with_reducible show wpQuiet _ _ _ _ (Oper.mk _ (Op.load _ (Operand.tmp 64)) _ _ _ _ :: _) _); refine wpQuiet_load_arr (by rfl) 38 (.tmp 64) rfl bp (op + i * 5) rfl A _ (fun w' hw' => by (obtain ⟨z, rfl⟩ := hw'; exact rangeAt_up G1.out (hz.out z))) rfl rfl (by rw [As.out]; rfl) ?_) | ((with_reducible show wpQuiet _ _ _ _ (Oper.mk _ (Op.load _ (Operand.tmp 68)) _ _ _ _ :: _) _); refine wpQuiet_load_arr (by rfl) 38 (.tmp 68) rfl bq (oq + i * 5) rfl B _ (fun w' hw' => by (obtain ⟨z, rfl⟩ := hw'; exact rangeAt_up G2.out (hz.out z))) rfl rfl (by rw [Bs.out]; rfl) ?_) | ((with_reducible show wpQuiet _ _ _ _ (Oper.mk (some 75) _ _ _ _ _ :: _) _); with_reducible refine wpQuiet_step (fun K hK => ?_); go_simp; first | (with_reducible refine hK _ ?_; clear hK K) | (apply Exists.intro; refine ⟨fun _ => ?_, hK _ ?_⟩; (go_at_call 13; with_reducible exact Calls.quiet_up (SAME.out _ (hz.out _))); clear hK K)) | (with_reducible refine wpQuiet_step (fun K hK => ?_); go_simp; with_reducible refine hK _ ?_; clear hK K))
    refine wpQuiet_nil ?_
    refine HRR'.out _ ?_
    rintro w5 ⟨z, hz5⟩
    have U5 : Hid (Up w w5) := by show Up _ _; rw [hz5]; exact Up.trans U4.out (hz.out z)
    clear hz5 HRR' hz
    go_wp2
    go_ret
    exact ⟨rfl, U5.out⟩
  by_cases h2 : e2 = 0
  case neg =>
    subst h1
    have d2 : (e2 != 0) = true := by rw [bne_iff_ne]; exact h2
    clear h2 EQ
    go_wp2_with fail
    refine wp_region_up_k (by kernel_rfl) (by kernel_rfl) ?_
    intro R HRR
    have HRR' := Lib.hid HRR
    clear HRR
    have hz := Lib.hid fun (z : UpW w4.drew) => (Up.trans (Up.refl w4).drew z.up : Up w4 z.w)
    haveI := UpW.some_ w4.drew
    repeat (first | ((with_reducible show wpQuiet _ _ _ _ (Oper.mk _ (Op.load _ (Operand.tmp 64)) _ _ _ _ :: _) _); refine wpQuiet_load_arr (by rfl) 38 (.tmp 64) rfl bp (op + i * 5) rfl A _ (fun w' hw' => by (obtain ⟨z, rfl⟩ := hw'; exact rangeAt_up G1.out (hz.out z))) rfl rfl (by rw [As.out]; rfl) ?_) | ((with_reducible show wpQuiet _ _ _ _ (Oper.mk _ (Op.load _ (Operand.tmp 68)) _ _ _ _ :: _) _); refine wpQuiet_load_arr (by rfl) 38 (.tmp 68) rfl bq (oq + i * 5) rfl B _ (fun w' hw' => by (obtain ⟨z, rfl⟩ := hw'; exact rangeAt_up G2.out (hz.out z))) rfl rfl (by rw [Bs.out]; rfl) ?_) | ((with_reducible show wpQuiet _ _ _ _ (Oper.mk (some 75) _ _ _ _ _ :: _) _); with_reducible refine wpQuiet_step (fun K hK => ?_); go_simp; first | (with_reducible refine hK _ ?_; clear hK K) | (apply Exists.intro; refine ⟨fun _ => ?_, hK _ ?_⟩; (go_at_call 13; with_reducible exact Calls.quiet_up (SAME.out _ (hz.out _))); clear hK K)) | (with_reducible refine wpQuiet_step (fun K hK => ?_); go_simp; with_reducible refine hK _ ?_; clear hK K))
    refine wpQuiet_nil ?_
    refine HRR'.out _ ?_
    rintro w5 ⟨z, hz5⟩
    have U5 : Hid (Up w w5) := by show Up _ _; rw [hz5]; exact Up.trans U4.out (hz.out z)
    clear hz5 HRR' hz
    go_wp2
    go_ret
    exact ⟨rfl, U5.out⟩
  cases nb
  case true =>
    subst h1 h2
    go_wp2_with fail
    refine wp_region_up_k (by kernel_rfl) (by kernel_rfl) ?_
    intro R HRR
    have HRR' := Lib.hid HRR
    clear HRR
    have hz := Lib.hid fun (z : UpW w4.drew) => (Up.trans (Up.refl w4).drew z.up : Up w4 z.w)
    haveI := UpW.some_ w4.drew
    repeat (first | ((with_reducible show wpQuiet _ _ _ _ (Oper.mk _ (Op.load _ (Operand.tmp 64)) _ _ _ _ :: _) _); refine wpQuiet_load_arr (by rfl) 38 (.tmp 64) rfl bp (op + i * 5) rfl A _ (fun w' hw' => by (obtain ⟨z, rfl⟩ := hw'; exact rangeAt_up G1.out (hz.out z))) rfl rfl (by rw [As.out]; rfl) ?_) | ((with_reducible show wpQuiet _ _ _ _ (Oper.mk _ (Op.load _ (Operand.tmp 68)) _ _ _ _ :: _) _); refine wpQuiet_load_arr (by rfl) 38 (.tmp 68) rfl bq (oq + i * 5) rfl B _ (fun w' hw' => by (obtain ⟨z, rfl⟩ := hw'; exact rangeAt_up G2.out (hz.out z))) rfl rfl (by rw [Bs.out]; rfl) ?_) | ((with_reducible show wpQuiet _ _ _ _ (Oper.mk (some 75) _ _ _ _ _ :: _) _); with_reducible refine wpQuiet_step (fun K hK => ?_); go_simp; first | (with_reducible refine hK _ ?_; clear hK K) | (apply Exists.intro; refine ⟨fun _ => ?_, hK _ ?_⟩; (go_at_call 13; with_reducible exact Calls.quiet_up (SAME.out _ (hz.out _))); clear hK K)) | (with_reducible refine wpQuiet_step (fun K hK => ?_); go_simp; with_reducible refine hK _ ?_; clear hK K))
    refine wpQuiet_nil ?_
    refine HRR'.out _ ?_
    rintro w5 ⟨z, hz5⟩
    have U5 : Hid (Up w w5) := by show Up _ _; rw [hz5]; exact Up.trans U4.out (hz.out z)
    clear hz5 HRR' hz
    go_wp2
    go_ret
    exact ⟨rfl, U5.out⟩
  cases sm
  case false =>
    subst h1 h2
    go_wp2_with fail
    refine wp_region_up_k (by kernel_rfl) (by kernel_rfl) ?_
    intro R HRR
    have HRR' := Lib.hid HRR
    clear HRR
    have hz := Lib.hid fun (z : UpW w4.drew) => (Up.trans (Up.refl w4).drew z.up : Up w4 z.w)
    haveI := UpW.some_ w4.drew
    repeat (first | ((with_reducible show wpQuiet _ _ _ _ (Oper.mk _ (Op.load _ (Operand.tmp 64)) _ _ _ _ :: _) _); refine wpQuiet_load_arr (by rfl) 38 (.tmp 64) rfl bp (op + i * 5) rfl A _ (fun w' hw' => by (obtain ⟨z, rfl⟩ := hw'; exact rangeAt_up G1.out (hz.out z))) rfl rfl (by rw [As.out]; rfl) ?_) | ((with_reducible show wpQuiet _ _ _ _ (Oper.mk _ (Op.load _ (Operand.tmp 68)) _ _ _ _ :: _) _); refine wpQuiet_load_arr (by rfl) 38 (.tmp 68) rfl bq (oq + i * 5) rfl B _ (fun w' hw' => by (obtain ⟨z, rfl⟩ := hw'; exact rangeAt_up G2.out (hz.out z))) rfl rfl (by rw [Bs.out]; rfl) ?_) | ((with_reducible show wpQuiet _ _ _ _ (Oper.mk (some 75) _ _ _ _ _ :: _) _); with_reducible refine wpQuiet_step (fun K hK => ?_); go_simp; first | (with_reducible refine hK _ ?_; clear hK K) | (apply Exists.intro; refine ⟨fun _ => ?_, hK _ ?_⟩; (go_at_call 13; with_reducible exact Calls.quiet_up (SAME.out _ (hz.out _))); clear hK K)) | (with_reducible refine wpQuiet_step (fun K hK => ?_); go_simp; with_reducible refine hK _ ?_; clear hK K))
    refine wpQuiet_nil ?_
    refine HRR'.out _ ?_
    rintro w5 ⟨z, hz5⟩
    have U5 : Hid (Up w w5) := by show Up _ _; rw [hz5]; exact Up.trans U4.out (hz.out z)
    clear hz5 HRR' hz
    go_wp2
    go_ret
    exact ⟨rfl, U5.out⟩
  obtain ⟨k1, k2, k3⟩ := HPH.out (by rw [← HE1.out]; exact h1) (by rw [← HE2.out]; exact h2) (by rw [← HN.out]; exact hin) (by rw [← HM.out]; exact hin) (by have := HNB.out; simpa using this) (by have := HSM.out; simpa using this)
  have RL := Lib.hid fun W (hu : Up w W) => root_calls (some ⟨bp, op, none⟩) n c ls W HN.out (S1.out.up hu) hc hcm (HT.out.up hu)
  have RM := Lib.hid fun W (hu : Up w W) => root_calls (some ⟨bq, oq, none⟩) n d ms W HM.out (S2.out.up hu) hd hdm (HT.out.up hu)
  rw [k1, k3] at RL
  rw [k2] at RM
  have hrl : (rootS ms).hash.length = 32 := by
    unfold rootS
    rw [if_pos k2]
    obtain ⟨q1, q2, q3⟩ := chkE_ok k2
    exact (treeS_ok q1 (by omega) q3).hash
  have EQ2 := fun W => run_eql_sum (rootS ms) (rootS ms) W hrl hrl
  rw [show decide (rootS ms = rootS ms) = true by simp] at EQ2
  have Ds : Hid ((smCells (rootS ms)).toArray.size = 35) := by have := smCells_len hrl; show _ = _; simpa using this
  have Dc : Hid ((smCells (rootS ms)).toArray.all (·.oneCell') = true) := smCells_all _
  obtain ⟨D, hD⟩ : ∃ D, D = (smCells (rootS ms)).toArray := ⟨_, rfl⟩
  rw [← hD] at RL RM EQ2 Ds Dc
  clear hD hrl k1 k2 k3 HPH
  subst h1 h2
  go_wp2_with fail
  refine wp_region_up_k (by kernel_rfl) (by kernel_rfl) ?_
  intro R HRR
  have HRR' := Lib.hid HRR
  clear HRR
  have hz := Lib.hid fun (z : UpW w4.drew) => (Up.trans (Up.refl w4).drew z.up : Up w4 z.w)
  haveI := UpW.some_ w4.drew
  repeat (first | ((with_reducible show wpQuiet _ _ _ _ (Oper.mk _ (Op.load _ (Operand.tmp 64)) _ _ _ _ :: _) _); refine wpQuiet_load_arr (by rfl) 38 (.tmp 64) rfl bp (op + i * 5) rfl A _ (fun w' hw' => by (obtain ⟨z, rfl⟩ := hw'; exact rangeAt_up G1.out (hz.out z))) rfl rfl (by rw [As.out]; rfl) ?_) | ((with_reducible show wpQuiet _ _ _ _ (Oper.mk _ (Op.load _ (Operand.tmp 68)) _ _ _ _ :: _) _); refine wpQuiet_load_arr (by rfl) 38 (.tmp 68) rfl bq (oq + i * 5) rfl B _ (fun w' hw' => by (obtain ⟨z, rfl⟩ := hw'; exact rangeAt_up G2.out (hz.out z))) rfl rfl (by rw [Bs.out]; rfl) ?_) | ((with_reducible show wpQuiet _ _ _ _ (Oper.mk (some 75) _ _ _ _ _ :: _) _); with_reducible refine wpQuiet_step (fun K hK => ?_); go_simp; first | (with_reducible refine hK _ ?_; clear hK K) | (apply Exists.intro; refine ⟨fun _ => ?_, hK _ ?_⟩; (go_at_call 13; with_reducible exact Calls.quiet_up (SAME.out _ (hz.out _))); clear hK K)) | (with_reducible refine wpQuiet_step (fun K hK => ?_); go_simp; with_reducible refine hK _ ?_; clear hK K))
  refine wpQuiet_nil ?_
  refine HRR'.out _ ?_
  rintro w5 ⟨z, hz5⟩
  have U5 : Hid (Up w w5) := by show Up _ _; rw [hz5]; exact Up.trans U4.out (hz.out z)
  clear hz5 HRR' hz
  clear SAME EQ G1 G2 As Bs
  go_wp2_with fail
  refine (RL.out w5 U5.out).mono ?_
  rintro e w6 ⟨rfl, u6⟩
  have U6 : Hid (Up w w6) := Up.trans U5.out u6
  clear u6
  go_wp2_with (first | (refine wpList_allocG rfl 28 35 allocsSum rfl ?_; intro A7 au az ahz; obtain ⟨Z7, hZz, hbz⟩ := ahz; have AU7 := Lib.hid au; have HZ7 := Lib.hid hZz; have HB7 := Lib.hid hbz; clear au az hZz hbz) | (refine wpList_store_row rfl 28 (.tmp 12) (.tmp 81) rfl _ D rfl rfl 28 _ HB7.out (by rw [Ds.out]; rfl) (by rw [HZ7.out, Ds.out]) Dc.out ?_; refine wpList_named ?_; intro W7 hW7; (have un := setRow_upN hW7 AU7.out (Nat.le_refl _)); (have pn := setRow_named hW7 HB7.out); have P7 := Lib.hid pn; (have U7 : Hid (Up w W7) := Up.trans U6.out un); clear un pn hW7))
  refine (RM.out W7 U7.out).mono ?_
  rintro e w8 ⟨rfl, u8⟩
  have U8 : Hid (Up w w8) := Up.trans U7.out u8
  have P8 := Lib.hid ((u8.block _ (lt_of_block P7.out)).trans P7.out)
  clear u8
  go_wp2_with (first | (refine wpList_allocG rfl 28 35 allocsSum rfl ?_; intro A9 au az ahz; obtain ⟨Z9, hZz, hbz⟩ := ahz; have AU9 := Lib.hid au; have HZ9 := Lib.hid hZz; have HB9 := Lib.hid hbz; clear au az hZz hbz) | (refine wpList_store_row rfl 28 (.tmp 14) (.tmp 86) rfl _ D rfl rfl 28 _ HB9.out (by rw [Ds.out]; rfl) (by rw [HZ9.out, Ds.out]) Dc.out ?_; refine wpList_named ?_; intro W9 hW9; (have un := setRow_upN hW9 AU9.out (Nat.le_refl _)); (have pn := setRow_named hW9 HB9.out); have P9 := Lib.hid pn; (have U9 : Hid (Up w W9) := Up.trans U8.out un); have P10 := Lib.hid ((un.block _ (lt_of_block P8.out)).trans P8.out); clear un pn hW9) | ((with_reducible show wpList _ _ _ (Oper.mk _ (Op.load _ (Operand.tmp 12)) _ _ _ _ :: _) _ _); refine wpList_load_arrG (by rfl) 28 (.tmp 12) rfl _ 0 rfl D _ (rangeAt_row P10.out) rfl rfl (by rw [Ds.out]; rfl) ?_) | ((with_reducible show wpList _ _ _ (Oper.mk _ (Op.load _ (Operand.tmp 14)) _ _ _ _ :: _) _ _); refine wpList_load_arrG (by rfl) 28 (.tmp 14) rfl _ 0 rfl D _ (rangeAt_row P9.out) rfl rfl (by rw [Ds.out]; rfl) ?_))
  go_ret
  exact ⟨rfl, U9.out⟩

theorem lawHidden_calls (p q : Option Addr) (n m c d : Nat) (ls ms : List Sh) (k : Nat) (w : World) (hn : n = ls.length) (hm : m = ms.length) (h1 : RowAt w p 5 (fun x : Sh => (shCells x).toList) ls) (h2 : RowAt w q 5 (fun x : Sh => (shCells x).toList) ms) (hc : n ≤ c) (hcm : c ≤ maxLen) (hd : m ≤ d) (hdm : d ≤ maxLen) (hk : k < 256) (t0 : Tab0 w) (t1 : Tab w) :
    Calls Tryd.prog 5 #[.slice p n c, .slice q m d, .int .u8 k] w fun e w' => e = .returned (.bool true) ∧ Up w w' := by
  cases h : (fewB n && fewB m && decide (n ≠ 0) && decide (m = n))
  · exact lawHidden_skip p q n m c d k w ⟨t0, t1⟩ h
  · simp only [Bool.and_eq_true, decide_eq_true_eq] at h
    obtain ⟨⟨⟨f1, f2⟩, f3⟩, rfl⟩ := h
    exact lawHidden_go p q m c d ls ms k w ⟨t0, t1⟩ f1 f3 hn hm h1 h2 hc hcm hd hdm hk

end Go.Proofs.YtobcfhninchnkaaDoor
