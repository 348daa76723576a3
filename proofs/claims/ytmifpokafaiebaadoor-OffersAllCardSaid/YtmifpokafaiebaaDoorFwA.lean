/- the reference's Few. what Reveal gives back: plain facts. -/
import Derived.Test.YtmifpokafaiebaaDoorLbP
namespace Go.Proofs.YtmifpokafaiebaaDoor
open Go Go.RowKit
set_option linter.unusedVariables false
set_option maxRecDepth 100000

def badN (n m : Nat) : Bool := (decide (20 < n) && decide (n ≤ 64)) || (decide (20 < m) && decide (m ≤ 64)) || decide (100 < n) || decide (100 < m)
def fewB (sls : List SlA) (xs : List OpA) : Bool := !badN sls.length xs.length && sls.all (fun s => decide (s.dig.length ≤ 100)) && xs.all (fun x => smallB x.a.o x.salt.length)

set_option maxHeartbeats 8000000 in
theorem few_lo_lo (p q : Option Addr) (n c m d : Nat) (sls : List SlA) (xs : List OpA) (w : World) (hn : n = sls.length) (hm : m = xs.length) (hc : n ≤ c) (hcm : c ≤ maxLen) (hd : m ≤ d) (hdm : d ≤ maxLen)
    (hr : RowAt w p 2 slCells sls) (hx : RowAt w q 7 opCells xs) (h1 : n ≤ 20) (h2 : m ≤ 20) :
    Calls Tryd.prog 18 #[.slice p n c, .slice q m d] w fun e w' => e = .returned (.bool (fewB sls xs)) ∧ Up w w' := by
  obtain ⟨V, hV⟩ : ∃ V, V = fewB sls xs := ⟨_, rfl⟩
  have hv : V = (sls.all (fun s => decide (s.dig.length ≤ 100)) && xs.all (fun x => smallB x.a.o x.salt.length)) := by
    have : badN sls.length xs.length = false := by
      rw [← hn, ← hm]; unfold badN
      simp only [Bool.or_eq_false_iff, Bool.and_eq_false_iff, decide_eq_false_iff_not]; omega
    rw [hV]; unfold fewB; rw [this]; rfl
  rw [← hV]
  have n1 : decide ((20 : Int) < (n : Int)) = false := by simp; omega
  have n2 : decide ((n : Int) ≤ 64) = true := by simp; omega
  have n3 : decide ((100 : Int) < (n : Int)) = false := by simp; omega
  have m1 : decide ((20 : Int) < (m : Int)) = false := by simp; omega
  have m2 : decide ((m : Int) ≤ 64) = true := by simp; omega
  have m3 : decide ((100 : Int) < (m : Int)) = false := by simp; omega
  have HV := Lib.hid hv
  have HN := Lib.hid hn
  have HM := Lib.hid hm
  have R1 := Lib.hid hr
  have R2 := Lib.hid hx
  clear hv hV hn hm hr hx
  go_enter Tryd.func18, Tryd.ntmps18
  go_wp2_with fail
  go_loopw [5] (fun v5 wq => ∃ i : Nat, i ≤ n ∧ v5 = .int .i64 i ∧ Hid (sls.all (fun s => decide (s.dig.length ≤ 100)) = (sls.drop i).all (fun s => decide (s.dig.length ≤ 100))) ∧ wq = w) (fun v5 _ => n - (intOf v5).toNat)
  case atStart => exact ⟨0, by omega, rfl, rfl, rfl⟩
  case round =>
    obtain ⟨i, hi, rfl, HA, rfl⟩ := hrel
    by_cases hlt : i < n
    case pos =>
      have hil : i < sls.length := by rw [← HN.out]; exact hlt
      obtain ⟨b, o, rfl, hpr⟩ := R1.out (by rintro rfl; simp at hil)
      have g : wr.cell? ⟨b, o + i * 2 + 1, none⟩ = some (.slice sls[i].p sls[i].dig.length sls[i].c) := by have := hpr i hil 1 _ rfl; simpa using this
      have hda := HA.out
      rw [List.drop_eq_getElem_cons hil, List.all_cons] at hda
      obtain ⟨dn, hdn⟩ : ∃ dn, dn = sls[i].dig.length := ⟨_, rfl⟩
      rw [← hdn] at g hda
      obtain ⟨sp, hsp⟩ : ∃ sp, sp = sls[i].p := ⟨_, rfl⟩
      obtain ⟨sc, hsc⟩ : ∃ sc, sc = sls[i].c := ⟨_, rfl⟩
      rw [← hsp, ← hsc] at g
      have HDA := Lib.hid hda
      clear hpr hda hdn hsp hsc hil HA
      by_cases hl : dn ≤ 100
      case neg =>
        have d5 : decide ((100 : Int) < (dn : Int)) = true := by simp; omega
        have hv : V = false := by rw [HV.out, HDA.out, decide_eq_false hl]; rfl
        subst hv
        clear HV HDA hl
        go_wp2_with fail
        go_ret
        exact ⟨rfl, Up.refl _⟩
      have d5 : decide ((100 : Int) < (dn : Int)) = false := by simp; omega
      have HA2 : Hid (sls.all (fun s => decide (s.dig.length ≤ 100)) = (sls.drop (i + 1)).all (fun s => decide (s.dig.length ≤ 100))) := by show _ = _; rw [HDA.out, decide_eq_true hl, Bool.true_and]
      clear HDA hl
      go_wp2_with fail
      exact ⟨⟨i + 1, by omega, by go_num, HA2, trivial⟩, by simp [intOf]; omega⟩
    have HV2 : Hid (V = xs.all (fun x => smallB x.a.o x.salt.length)) := by
      show V = _; rw [HV.out, HA.out, List.drop_of_length_le (by rw [← HN.out]; omega)]; rfl
    obtain ⟨W0, hW0⟩ : ∃ W0, W0 = wr := ⟨_, rfl⟩
    subst hW0
    clear HV HA
    go_wp2_with fail
    clear hlt hi
    go_loopw [6] (fun v6 wq => ∃ i : Nat, i ≤ m ∧ v6 = .int .i64 i ∧ Hid (xs.all (fun x => smallB x.a.o x.salt.length) = (xs.drop i).all (fun x => smallB x.a.o x.salt.length)) ∧ Hid (Up W0 wq)) (fun v6 _ => m - (intOf v6).toNat)
    case atStart => exact ⟨0, by omega, rfl, rfl, Up.refl _⟩
    case round =>
      obtain ⟨i, hi, rfl, HA, HU⟩ := hrel
      by_cases hlt : i < m
      case neg =>
        have hv : V = true := by rw [HV2.out, HA.out, List.drop_of_length_le (by rw [← HM.out]; omega)]; rfl
        subst hv
        go_wp2_with fail
        go_ret
        exact ⟨rfl, HU.out⟩
      have hil : i < xs.length := by rw [← HM.out]; exact hlt
      obtain ⟨b, o, rfl, hpr⟩ := R2.out (by rintro rfl; simp at hil)
      have g := rangeAt_up (hpr i hil) HU.out
      have hda := HA.out
      rw [List.drop_eq_getElem_cons hil, List.all_cons] at hda
      obtain ⟨x, hxx⟩ : ∃ x, x = xs[i] := ⟨_, rfl⟩
      rw [← hxx] at g hda
      have g6 : wr.cell? ⟨b, o + i * 7 + 6, none⟩ = some (.slice x.sp x.salt.length x.sc) := by have := g 6 _ rfl; simpa using this
      have gA : wr.rangeAt b (o + i * 7) (ofCells x.a).toArray.toList := fun j u hu => by
        have := g j u (by simp only [opCells]; rw [List.getElem?_append_left (by have := (List.getElem?_eq_some_iff.1 hu).1; simpa using this)]; simpa using hu)
        exact this
      have SM := Lib.hid fun W => rsmall_calls x.a x.sp x.salt.length x.sc W
      have As : Hid ((ofCells x.a).toArray.size = 6) := rfl
      obtain ⟨A, hA⟩ : ∃ A, A = (ofCells x.a).toArray := ⟨_, rfl⟩
      obtain ⟨sn, hsn⟩ : ∃ sn, sn = x.salt.length := ⟨_, rfl⟩
      obtain ⟨bb, hbb⟩ : ∃ bb, bb = smallB x.a.o x.salt.length := ⟨_, rfl⟩
      rw [← hbb] at SM hda
      rw [← hA, ← hsn] at SM
      rw [← hsn] at g6
      rw [← hA] at gA As
      have GA := Lib.hid gA
      have HDA := Lib.hid hda
      have k6 : ∀ z : UpW wr.drew, z.w.cell? ⟨b, o + i * 7 + 6, none⟩ = some (.slice x.sp sn x.sc) := fun z => cell_up g6 (Up.trans (Up.refl wr).drew z.up)
      clear hpr hda hil HA g gA g6 hA hsn hbb hxx
      go_wp2_with fail
      haveI := UpW.some_ wr.drew
      have hz := Lib.hid fun (z : UpW wr.drew) => (Up.trans (Up.refl wr).drew z.up : Up wr z.w)
      refine wp_region_up_k (by kernel_rfl) (by kernel_rfl) ?_
      intro R HRR
      have HRR' := Lib.hid HRR
      clear HRR
      repeat (first | ((with_reducible show wpQuiet _ _ _ _ (Oper.mk _ (Op.load _ (Operand.tmp 58)) _ _ _ _ :: _) _); refine wpQuiet_load_arr (by rfl) 26 (.tmp 58) rfl b (o + i * 7) rfl A _ (fun w' hw' => by (obtain ⟨z, rfl⟩ := hw'; exact rangeAt_up GA.out (hz.out z))) rfl rfl (by rw [As.out]; rfl) ?_) | ((with_reducible show wpQuiet _ _ _ _ (Oper.mk (some 65) _ _ _ _ _ :: _) _); with_reducible refine wpQuiet_step (fun K hK => ?_); go_simp; apply Exists.intro; refine ⟨fun _ => ?_, hK _ ?_⟩; (go_at_call 11; with_reducible exact Calls.quiet_up (SM.out _)); clear hK K) | (with_reducible refine wpQuiet_step (fun K hK => ?_); go_simp; with_reducible refine hK _ ?_; clear hK K))
      refine wpQuiet_nil ?_
      refine HRR'.out _ ?_
      rintro w4 ⟨z, hz4⟩
      have U4 : Hid (Up W0 w4) := by show Up _ _; rw [hz4]; exact Up.trans HU.out (hz.out z)
      clear hz4 HRR' hz SM k6
      cases bb
      case false =>
        have hv : V = false := by rw [HV2.out, HDA.out]; rfl
        subst hv
        go_wp2_with fail
        go_ret
        exact ⟨rfl, U4.out⟩
      have HA2 : Hid (xs.all (fun x => smallB x.a.o x.salt.length) = (xs.drop (i + 1)).all (fun x => smallB x.a.o x.salt.length)) := by show _ = _; rw [HDA.out, Bool.true_and]
      clear HDA
      go_wp2_with fail
      exact ⟨⟨i + 1, by omega, by go_num, HA2, U4⟩, by simp [intOf]; omega⟩

set_option maxHeartbeats 8000000 in
theorem few_lo_mid (p q : Option Addr) (n c m d : Nat) (sls : List SlA) (xs : List OpA) (w : World) (hn : n = sls.length) (hm : m = xs.length) (hc : n ≤ c) (hcm : c ≤ maxLen) (hd : m ≤ d) (hdm : d ≤ maxLen)
    (hr : RowAt w p 2 slCells sls) (hx : RowAt w q 7 opCells xs) (h1 : n ≤ 20) (h2 : 20 < m ∧ m ≤ 64) :
    Calls Tryd.prog 18 #[.slice p n c, .slice q m d] w fun e w' => e = .returned (.bool (fewB sls xs)) ∧ Up w w' := by
  have hv : fewB sls xs = false := by
    have : badN sls.length xs.length = true := by
      rw [← hn, ← hm]; unfold badN
      simp only [Bool.or_eq_true, Bool.and_eq_true, decide_eq_true_eq]; omega
    unfold fewB; rw [this]; rfl
  rw [hv]
  have n1 : decide ((20 : Int) < (n : Int)) = false := by simp; omega
  have n2 : decide ((n : Int) ≤ 64) = true := by simp; omega
  have n3 : decide ((100 : Int) < (n : Int)) = false := by simp; omega
  have m1 : decide ((20 : Int) < (m : Int)) = true := by simp; omega
  have m2 : decide ((m : Int) ≤ 64) = true := by simp; omega
  have m3 : decide ((100 : Int) < (m : Int)) = false := by simp; omega
  clear hv hn hm hr hx h1 h2
  go_enter Tryd.func18, Tryd.ntmps18
  go_wp2_with fail
  go_ret
  exact ⟨rfl, Up.refl _⟩

set_option maxHeartbeats 8000000 in
theorem few_lo_hi (p q : Option Addr) (n c m d : Nat) (sls : List SlA) (xs : List OpA) (w : World) (hn : n = sls.length) (hm : m = xs.length) (hc : n ≤ c) (hcm : c ≤ maxLen) (hd : m ≤ d) (hdm : d ≤ maxLen)
    (hr : RowAt w p 2 slCells sls) (hx : RowAt w q 7 opCells xs) (h1 : n ≤ 20) (h2 : 64 < m ∧ m ≤ 100) :
    Calls Tryd.prog 18 #[.slice p n c, .slice q m d] w fun e w' => e = .returned (.bool (fewB sls xs)) ∧ Up w w' := by
  obtain ⟨V, hV⟩ : ∃ V, V = fewB sls xs := ⟨_, rfl⟩
  have hv : V = (sls.all (fun s => decide (s.dig.length ≤ 100)) && xs.all (fun x => smallB x.a.o x.salt.length)) := by
    have : badN sls.length xs.length = false := by
      rw [← hn, ← hm]; unfold badN
      simp only [Bool.or_eq_false_iff, Bool.and_eq_false_iff, decide_eq_false_iff_not]; omega
    rw [hV]; unfold fewB; rw [this]; rfl
  rw [← hV]
  have n1 : decide ((20 : Int) < (n : Int)) = false := by simp; omega
  have n2 : decide ((n : Int) ≤ 64) = true := by simp; omega
  have n3 : decide ((100 : Int) < (n : Int)) = false := by simp; omega
  have m1 : decide ((20 : Int) < (m : Int)) = true := by simp; omega
  have m2 : decide ((m : Int) ≤ 64) = false := by simp; omega
  have m3 : decide ((100 : Int) < (m : Int)) = false := by simp; omega
  have HV := Lib.hid hv
  have HN := Lib.hid hn
  have HM := Lib.hid hm
  have R1 := Lib.hid hr
  have R2 := Lib.hid hx
  clear hv hV hn hm hr hx
  go_enter Tryd.func18, Tryd.ntmps18
  go_wp2_with fail
  go_loopw [5] (fun v5 wq => ∃ i : Nat, i ≤ n ∧ v5 = .int .i64 i ∧ Hid (sls.all (fun s => decide (s.dig.length ≤ 100)) = (sls.drop i).all (fun s => decide (s.dig.length ≤ 100))) ∧ wq = w) (fun v5 _ => n - (intOf v5).toNat)
  case atStart => exact ⟨0, by omega, rfl, rfl, rfl⟩
  case round =>
    obtain ⟨i, hi, rfl, HA, rfl⟩ := hrel
    by_cases hlt : i < n
    case pos =>
      have hil : i < sls.length := by rw [← HN.out]; exact hlt
      obtain ⟨b, o, rfl, hpr⟩ := R1.out (by rintro rfl; simp at hil)
      have g : wr.cell? ⟨b, o + i * 2 + 1, none⟩ = some (.slice sls[i].p sls[i].dig.length sls[i].c) := by have := hpr i hil 1 _ rfl; simpa using this
      have hda := HA.out
      rw [List.drop_eq_getElem_cons hil, List.all_cons] at hda
      obtain ⟨dn, hdn⟩ : ∃ dn, dn = sls[i].dig.length := ⟨_, rfl⟩
      rw [← hdn] at g hda
      obtain ⟨sp, hsp⟩ : ∃ sp, sp = sls[i].p := ⟨_, rfl⟩
      obtain ⟨sc, hsc⟩ : ∃ sc, sc = sls[i].c := ⟨_, rfl⟩
      rw [← hsp, ← hsc] at g
      have HDA := Lib.hid hda
      clear hpr hda hdn hsp hsc hil HA
      by_cases hl : dn ≤ 100
      case neg =>
        have d5 : decide ((100 : Int) < (dn : Int)) = true := by simp; omega
        have hv : V = false := by rw [HV.out, HDA.out, decide_eq_false hl]; rfl
        subst hv
        clear HV HDA hl
        go_wp2_with fail
        go_ret
        exact ⟨rfl, Up.refl _⟩
      have d5 : decide ((100 : Int) < (dn : Int)) = false := by simp; omega
      have HA2 : Hid (sls.all (fun s => decide (s.dig.length ≤ 100)) = (sls.drop (i + 1)).all (fun s => decide (s.dig.length ≤ 100))) := by show _ = _; rw [HDA.out, decide_eq_true hl, Bool.true_and]
      clear HDA hl
      go_wp2_with fail
      exact ⟨⟨i + 1, by omega, by go_num, HA2, trivial⟩, by simp [intOf]; omega⟩
    have HV2 : Hid (V = xs.all (fun x => smallB x.a.o x.salt.length)) := by
      show V = _; rw [HV.out, HA.out, List.drop_of_length_le (by rw [← HN.out]; omega)]; rfl
    obtain ⟨W0, hW0⟩ : ∃ W0, W0 = wr := ⟨_, rfl⟩
    subst hW0
    clear HV HA
    go_wp2_with fail
    clear hlt hi
    go_loopw [6] (fun v6 wq => ∃ i : Nat, i ≤ m ∧ v6 = .int .i64 i ∧ Hid (xs.all (fun x => smallB x.a.o x.salt.length) = (xs.drop i).all (fun x => smallB x.a.o x.salt.length)) ∧ Hid (Up W0 wq)) (fun v6 _ => m - (intOf v6).toNat)
    case atStart => exact ⟨0, by omega, rfl, rfl, Up.refl _⟩
    case round =>
      obtain ⟨i, hi, rfl, HA, HU⟩ := hrel
      by_cases hlt : i < m
      case neg =>
        have hv : V = true := by rw [HV2.out, HA.out, List.drop_of_length_le (by rw [← HM.out]; omega)]; rfl
        subst hv
        go_wp2_with fail
        go_ret
        exact ⟨rfl, HU.out⟩
      have hil : i < xs.length := by rw [← HM.out]; exact hlt
      obtain ⟨b, o, rfl, hpr⟩ := R2.out (by rintro rfl; simp at hil)
      have g := rangeAt_up (hpr i hil) HU.out
      have hda := HA.out
      rw [List.drop_eq_getElem_cons hil, List.all_cons] at hda
      obtain ⟨x, hxx⟩ : ∃ x, x = xs[i] := ⟨_, rfl⟩
      rw [← hxx] at g hda
      have g6 : wr.cell? ⟨b, o + i * 7 + 6, none⟩ = some (.slice x.sp x.salt.length x.sc) := by have := g 6 _ rfl; simpa using this
      have gA : wr.rangeAt b (o + i * 7) (ofCells x.a).toArray.toList := fun j u hu => by
        have := g j u (by simp only [opCells]; rw [List.getElem?_append_left (by have := (List.getElem?_eq_some_iff.1 hu).1; simpa using this)]; simpa using hu)
        exact this
      have SM := Lib.hid fun W => rsmall_calls x.a x.sp x.salt.length x.sc W
      have As : Hid ((ofCells x.a).toArray.size = 6) := rfl
      obtain ⟨A, hA⟩ : ∃ A, A = (ofCells x.a).toArray := ⟨_, rfl⟩
      obtain ⟨sn, hsn⟩ : ∃ sn, sn = x.salt.length := ⟨_, rfl⟩
      obtain ⟨bb, hbb⟩ : ∃ bb, bb = smallB x.a.o x.salt.length := ⟨_, rfl⟩
      rw [← hbb] at SM hda
      rw [← hA, ← hsn] at SM
      rw [← hsn] at g6
      rw [← hA] at gA As
      have GA := Lib.hid gA
      have HDA := Lib.hid hda
      have k6 : ∀ z : UpW wr.drew, z.w.cell? ⟨b, o + i * 7 + 6, none⟩ = some (.slice x.sp sn x.sc) := fun z => cell_up g6 (Up.trans (Up.refl wr).drew z.up)
      clear hpr hda hil HA g gA g6 hA hsn hbb hxx
      go_wp2_with fail
      haveI := UpW.some_ wr.drew
      have hz := Lib.hid fun (z : UpW wr.drew) => (Up.trans (Up.refl wr).drew z.up : Up wr z.w)
      refine wp_region_up_k (by kernel_rfl) (by kernel_rfl) ?_
      intro R HRR
      have HRR' := Lib.hid HRR
      clear HRR
      repeat (first | ((with_reducible show wpQuiet _ _ _ _ (Oper.mk _ (Op.load _ (Operand.tmp 58)) _ _ _ _ :: _) _); refine wpQuiet_load_arr (by rfl) 26 (.tmp 58) rfl b (o + i * 7) rfl A _ (fun w' hw' => by (obtain ⟨z, rfl⟩ := hw'; exact rangeAt_up GA.out (hz.out z))) rfl rfl (by rw [As.out]; rfl) ?_) | ((with_reducible show wpQuiet _ _ _ _ (Oper.mk (some 65) _ _ _ _ _ :: _) _); with_reducible refine wpQuiet_step (fun K hK => ?_); go_simp; apply Exists.intro; refine ⟨fun _ => ?_, hK _ ?_⟩; (go_at_call 11; with_reducible exact Calls.quiet_up (SM.out _)); clear hK K) | (with_reducible refine wpQuiet_step (fun K hK => ?_); go_simp; with_reducible refine hK _ ?_; clear hK K))
      refine wpQuiet_nil ?_
      refine HRR'.out _ ?_
      rintro w4 ⟨z, hz4⟩
      have U4 : Hid (Up W0 w4) := by show Up _ _; rw [hz4]; exact Up.trans HU.out (hz.out z)
      clear hz4 HRR' hz SM k6
      cases bb
      case false =>
        have hv : V = false := by rw [HV2.out, HDA.out]; rfl
        subst hv
        go_wp2_with fail
        go_ret
        exact ⟨rfl, U4.out⟩
      have HA2 : Hid (xs.all (fun x => smallB x.a.o x.salt.length) = (xs.drop (i + 1)).all (fun x => smallB x.a.o x.salt.length)) := by show _ = _; rw [HDA.out, Bool.true_and]
      clear HDA
      go_wp2_with fail
      exact ⟨⟨i + 1, by omega, by go_num, HA2, U4⟩, by simp [intOf]; omega⟩

set_option maxHeartbeats 8000000 in
theorem few_lo_big (p q : Option Addr) (n c m d : Nat) (sls : List SlA) (xs : List OpA) (w : World) (hn : n = sls.length) (hm : m = xs.length) (hc : n ≤ c) (hcm : c ≤ maxLen) (hd : m ≤ d) (hdm : d ≤ maxLen)
    (hr : RowAt w p 2 slCells sls) (hx : RowAt w q 7 opCells xs) (h1 : n ≤ 20) (h2 : 100 < m) :
    Calls Tryd.prog 18 #[.slice p n c, .slice q m d] w fun e w' => e = .returned (.bool (fewB sls xs)) ∧ Up w w' := by
  have hv : fewB sls xs = false := by
    have : badN sls.length xs.length = true := by
      rw [← hn, ← hm]; unfold badN
      simp only [Bool.or_eq_true, Bool.and_eq_true, decide_eq_true_eq]; omega
    unfold fewB; rw [this]; rfl
  rw [hv]
  have n1 : decide ((20 : Int) < (n : Int)) = false := by simp; omega
  have n2 : decide ((n : Int) ≤ 64) = true := by simp; omega
  have n3 : decide ((100 : Int) < (n : Int)) = false := by simp; omega
  have m1 : decide ((20 : Int) < (m : Int)) = true := by simp; omega
  have m2 : decide ((m : Int) ≤ 64) = false := by simp; omega
  have m3 : decide ((100 : Int) < (m : Int)) = true := by simp; omega
  clear hv hn hm hr hx h1 h2
  go_enter Tryd.func18, Tryd.ntmps18
  go_wp2_with fail
  go_ret
  exact ⟨rfl, Up.refl _⟩

set_option maxHeartbeats 8000000 in
theorem few_mid_lo (p q : Option Addr) (n c m d : Nat) (sls : List SlA) (xs : List OpA) (w : World) (hn : n = sls.length) (hm : m = xs.length) (hc : n ≤ c) (hcm : c ≤ maxLen) (hd : m ≤ d) (hdm : d ≤ maxLen)
    (hr : RowAt w p 2 slCells sls) (hx : RowAt w q 7 opCells xs) (h1 : 20 < n ∧ n ≤ 64) (h2 : m ≤ 20) :
    Calls Tryd.prog 18 #[.slice p n c, .slice q m d] w fun e w' => e = .returned (.bool (fewB sls xs)) ∧ Up w w' := by
  have hv : fewB sls xs = false := by
    have : badN sls.length xs.length = true := by
      rw [← hn, ← hm]; unfold badN
      simp only [Bool.or_eq_true, Bool.and_eq_true, decide_eq_true_eq]; omega
    unfold fewB; rw [this]; rfl
  rw [hv]
  have n1 : decide ((20 : Int) < (n : Int)) = true := by simp; omega
  have n2 : decide ((n : Int) ≤ 64) = true := by simp; omega
  have n3 : decide ((100 : Int) < (n : Int)) = false := by simp; omega
  have m1 : decide ((20 : Int) < (m : Int)) = false := by simp; omega
  have m2 : decide ((m : Int) ≤ 64) = true := by simp; omega
  have m3 : decide ((100 : Int) < (m : Int)) = false := by simp; omega
  clear hv hn hm hr hx h1 h2
  go_enter Tryd.func18, Tryd.ntmps18
  go_wp2_with fail
  go_ret
  exact ⟨rfl, Up.refl _⟩

set_option maxHeartbeats 8000000 in
theorem few_mid_mid (p q : Option Addr) (n c m d : Nat) (sls : List SlA) (xs : List OpA) (w : World) (hn : n = sls.length) (hm : m = xs.length) (hc : n ≤ c) (hcm : c ≤ maxLen) (hd : m ≤ d) (hdm : d ≤ maxLen)
    (hr : RowAt w p 2 slCells sls) (hx : RowAt w q 7 opCells xs) (h1 : 20 < n ∧ n ≤ 64) (h2 : 20 < m ∧ m ≤ 64) :
    Calls Tryd.prog 18 #[.slice p n c, .slice q m d] w fun e w' => e = .returned (.bool (fewB sls xs)) ∧ Up w w' := by
  have hv : fewB sls xs = false := by
    have : badN sls.length xs.length = true := by
      rw [← hn, ← hm]; unfold badN
      simp only [Bool.or_eq_true, Bool.and_eq_true, decide_eq_true_eq]; omega
    unfold fewB; rw [this]; rfl
  rw [hv]
  have n1 : decide ((20 : Int) < (n : Int)) = true := by simp; omega
  have n2 : decide ((n : Int) ≤ 64) = true := by simp; omega
  have n3 : decide ((100 : Int) < (n : Int)) = false := by simp; omega
  have m1 : decide ((20 : Int) < (m : Int)) = true := by simp; omega
  have m2 : decide ((m : Int) ≤ 64) = true := by simp; omega
  have m3 : decide ((100 : Int) < (m : Int)) = false := by simp; omega
  clear hv hn hm hr hx h1 h2
  go_enter Tryd.func18, Tryd.ntmps18
  go_wp2_with fail
  go_ret
  exact ⟨rfl, Up.refl _⟩

set_option maxHeartbeats 8000000 in
theorem few_mid_hi (p q : Option Addr) (n c m d : Nat) (sls : List SlA) (xs : List OpA) (w : World) (hn : n = sls.length) (hm : m = xs.length) (hc : n ≤ c) (hcm : c ≤ maxLen) (hd : m ≤ d) (hdm : d ≤ maxLen)
    (hr : RowAt w p 2 slCells sls) (hx : RowAt w q 7 opCells xs) (h1 : 20 < n ∧ n ≤ 64) (h2 : 64 < m ∧ m ≤ 100) :
    Calls Tryd.prog 18 #[.slice p n c, .slice q m d] w fun e w' => e = .returned (.bool (fewB sls xs)) ∧ Up w w' := by
  have hv : fewB sls xs = false := by
    have : badN sls.length xs.length = true := by
      rw [← hn, ← hm]; unfold badN
      simp only [Bool.or_eq_true, Bool.and_eq_true, decide_eq_true_eq]; omega
    unfold fewB; rw [this]; rfl
  rw [hv]
  have n1 : decide ((20 : Int) < (n : Int)) = true := by simp; omega
  have n2 : decide ((n : Int) ≤ 64) = true := by simp; omega
  have n3 : decide ((100 : Int) < (n : Int)) = false := by simp; omega
  have m1 : decide ((20 : Int) < (m : Int)) = true := by simp; omega
  have m2 : decide ((m : Int) ≤ 64) = false := by simp; omega
  have m3 : decide ((100 : Int) < (m : Int)) = false := by simp; omega
  clear hv hn hm hr hx h1 h2
  go_enter Tryd.func18, Tryd.ntmps18
  go_wp2_with fail
  go_ret
  exact ⟨rfl, Up.refl _⟩

set_option maxHeartbeats 8000000 in
theorem few_mid_big (p q : Option Addr) (n c m d : Nat) (sls : List SlA) (xs : List OpA) (w : World) (hn : n = sls.length) (hm : m = xs.length) (hc : n ≤ c) (hcm : c ≤ maxLen) (hd : m ≤ d) (hdm : d ≤ maxLen)
    (hr : RowAt w p 2 slCells sls) (hx : RowAt w q 7 opCells xs) (h1 : 20 < n ∧ n ≤ 64) (h2 : 100 < m) :
    Calls Tryd.prog 18 #[.slice p n c, .slice q m d] w fun e w' => e = .returned (.bool (fewB sls xs)) ∧ Up w w' := by
  have hv : fewB sls xs = false := by
    have : badN sls.length xs.length = true := by
      rw [← hn, ← hm]; unfold badN
      simp only [Bool.or_eq_true, Bool.and_eq_true, decide_eq_true_eq]; omega
    unfold fewB; rw [this]; rfl
  rw [hv]
  have n1 : decide ((20 : Int) < (n : Int)) = true := by simp; omega
  have n2 : decide ((n : Int) ≤ 64) = true := by simp; omega
  have n3 : decide ((100 : Int) < (n : Int)) = false := by simp; omega
  have m1 : decide ((20 : Int) < (m : Int)) = true := by simp; omega
  have m2 : decide ((m : Int) ≤ 64) = false := by simp; omega
  have m3 : decide ((100 : Int) < (m : Int)) = true := by simp; omega
  clear hv hn hm hr hx h1 h2
  go_enter Tryd.func18, Tryd.ntmps18
  go_wp2_with fail
  go_ret
  exact ⟨rfl, Up.refl _⟩

set_option maxHeartbeats 8000000 in
theorem few_hi_lo (p q : Option Addr) (n c m d : Nat) (sls : List SlA) (xs : List OpA) (w : World) (hn : n = sls.length) (hm : m = xs.length) (hc : n ≤ c) (hcm : c ≤ maxLen) (hd : m ≤ d) (hdm : d ≤ maxLen)
    (hr : RowAt w p 2 slCells sls) (hx : RowAt w q 7 opCells xs) (h1 : 64 < n ∧ n ≤ 100) (h2 : m ≤ 20) :
    Calls Tryd.prog 18 #[.slice p n c, .slice q m d] w fun e w' => e = .returned (.bool (fewB sls xs)) ∧ Up w w' := by
  obtain ⟨V, hV⟩ : ∃ V, V = fewB sls xs := ⟨_, rfl⟩
  have hv : V = (sls.all (fun s => decide (s.dig.length ≤ 100)) && xs.all (fun x => smallB x.a.o x.salt.length)) := by
    have : badN sls.length xs.length = false := by
      rw [← hn, ← hm]; unfold badN
      simp only [Bool.or_eq_false_iff, Bool.and_eq_false_iff, decide_eq_false_iff_not]; omega
    rw [hV]; unfold fewB; rw [this]; rfl
  rw [← hV]
  have n1 : decide ((20 : Int) < (n : Int)) = true := by simp; omega
  have n2 : decide ((n : Int) ≤ 64) = false := by simp; omega
  have n3 : decide ((100 : Int) < (n : Int)) = false := by simp; omega
  have m1 : decide ((20 : Int) < (m : Int)) = false := by simp; omega
  have m2 : decide ((m : Int) ≤ 64) = true := by simp; omega
  have m3 : decide ((100 : Int) < (m : Int)) = false := by simp; omega
  have HV := Lib.hid hv
  have HN := Lib.hid hn
  have HM := Lib.hid hm
  have R1 := Lib.hid hr
  have R2 := Lib.hid hx
  clear hv hV hn hm hr hx
  go_enter Tryd.func18, Tryd.ntmps18
  go_wp2_with fail
  go_loopw [5] (fun v5 wq => ∃ i : Nat, i ≤ n ∧ v5 = .int .i64 i ∧ Hid (sls.all (fun s => decide (s.dig.length ≤ 100)) = (sls.drop i).all (fun s => decide (s.dig.length ≤ 100))) ∧ wq = w) (fun v5 _ => n - (intOf v5).toNat)
  case atStart => exact ⟨0, by omega, rfl, rfl, rfl⟩
  case round =>
    obtain ⟨i, hi, rfl, HA, rfl⟩ := hrel
    by_cases hlt : i < n
    case pos =>
      have hil : i < sls.length := by rw [← HN.out]; exact hlt
      obtain ⟨b, o, rfl, hpr⟩ := R1.out (by rintro rfl; simp at hil)
      have g : wr.cell? ⟨b, o + i * 2 + 1, none⟩ = some (.slice sls[i].p sls[i].dig.length sls[i].c) := by have := hpr i hil 1 _ rfl; simpa using this
      have hda := HA.out
      rw [List.drop_eq_getElem_cons hil, List.all_cons] at hda
      obtain ⟨dn, hdn⟩ : ∃ dn, dn = sls[i].dig.length := ⟨_, rfl⟩
      rw [← hdn] at g hda
      obtain ⟨sp, hsp⟩ : ∃ sp, sp = sls[i].p := ⟨_, rfl⟩
      obtain ⟨sc, hsc⟩ : ∃ sc, sc = sls[i].c := ⟨_, rfl⟩
      rw [← hsp, ← hsc] at g
      have HDA := Lib.hid hda
      clear hpr hda hdn hsp hsc hil HA
      by_cases hl : dn ≤ 100
      case neg =>
        have d5 : decide ((100 : Int) < (dn : Int)) = true := by simp; omega
        have hv : V = false := by rw [HV.out, HDA.out, decide_eq_false hl]; rfl
        subst hv
        clear HV HDA hl
        go_wp2_with fail
        go_ret
        exact ⟨rfl, Up.refl _⟩
      have d5 : decide ((100 : Int) < (dn : Int)) = false := by simp; omega
      have HA2 : Hid (sls.all (fun s => decide (s.dig.length ≤ 100)) = (sls.drop (i + 1)).all (fun s => decide (s.dig.length ≤ 100))) := by show _ = _; rw [HDA.out, decide_eq_true hl, Bool.true_and]
      clear HDA hl
      go_wp2_with fail
      exact ⟨⟨i + 1, by omega, by go_num, HA2, trivial⟩, by simp [intOf]; omega⟩
    have HV2 : Hid (V = xs.all (fun x => smallB x.a.o x.salt.length)) := by
      show V = _; rw [HV.out, HA.out, List.drop_of_length_le (by rw [← HN.out]; omega)]; rfl
    obtain ⟨W0, hW0⟩ : ∃ W0, W0 = wr := ⟨_, rfl⟩
    subst hW0
    clear HV HA
    go_wp2_with fail
    clear hlt hi
    go_loopw [6] (fun v6 wq => ∃ i : Nat, i ≤ m ∧ v6 = .int .i64 i ∧ Hid (xs.all (fun x => smallB x.a.o x.salt.length) = (xs.drop i).all (fun x => smallB x.a.o x.salt.length)) ∧ Hid (Up W0 wq)) (fun v6 _ => m - (intOf v6).toNat)
    case atStart => exact ⟨0, by omega, rfl, rfl, Up.refl _⟩
    case round =>
      obtain ⟨i, hi, rfl, HA, HU⟩ := hrel
      by_cases hlt : i < m
      case neg =>
        have hv : V = true := by rw [HV2.out, HA.out, List.drop_of_length_le (by rw [← HM.out]; omega)]; rfl
        subst hv
        go_wp2_with fail
        go_ret
        exact ⟨rfl, HU.out⟩
      have hil : i < xs.length := by rw [← HM.out]; exact hlt
      obtain ⟨b, o, rfl, hpr⟩ := R2.out (by rintro rfl; simp at hil)
      have g := rangeAt_up (hpr i hil) HU.out
      have hda := HA.out
      rw [List.drop_eq_getElem_cons hil, List.all_cons] at hda
      obtain ⟨x, hxx⟩ : ∃ x, x = xs[i] := ⟨_, rfl⟩
      rw [← hxx] at g hda
      have g6 : wr.cell? ⟨b, o + i * 7 + 6, none⟩ = some (.slice x.sp x.salt.length x.sc) := by have := g 6 _ rfl; simpa using this
      have gA : wr.rangeAt b (o + i * 7) (ofCells x.a).toArray.toList := fun j u hu => by
        have := g j u (by simp only [opCells]; rw [List.getElem?_append_left (by have := (List.getElem?_eq_some_iff.1 hu).1; simpa using this)]; simpa using hu)
        exact this
      have SM := Lib.hid fun W => rsmall_calls x.a x.sp x.salt.length x.sc W
      have As : Hid ((ofCells x.a).toArray.size = 6) := rfl
      obtain ⟨A, hA⟩ : ∃ A, A = (ofCells x.a).toArray := ⟨_, rfl⟩
      obtain ⟨sn, hsn⟩ : ∃ sn, sn = x.salt.length := ⟨_, rfl⟩
      obtain ⟨bb, hbb⟩ : ∃ bb, bb = smallB x.a.o x.salt.length := ⟨_, rfl⟩
      rw [← hbb] at SM hda
      rw [← hA, ← hsn] at SM
      rw [← hsn] at g6
      rw [← hA] at gA As
      have GA := Lib.hid gA
      have HDA := Lib.hid hda
      have k6 : ∀ z : UpW wr.drew, z.w.cell? ⟨b, o + i * 7 + 6, none⟩ = some (.slice x.sp sn x.sc) := fun z => cell_up g6 (Up.trans (Up.refl wr).drew z.up)
      clear hpr hda hil HA g gA g6 hA hsn hbb hxx
      go_wp2_with fail
      haveI := UpW.some_ wr.drew
      have hz := Lib.hid fun (z : UpW wr.drew) => (Up.trans (Up.refl wr).drew z.up : Up wr z.w)
      refine wp_region_up_k (by kernel_rfl) (by kernel_rfl) ?_
      intro R HRR
      have HRR' := Lib.hid HRR
      clear HRR
      repeat (first | ((with_reducible show wpQuiet _ _ _ _ (Oper.mk _ (Op.load _ (Operand.tmp 58)) _ _ _ _ :: _) _); refine wpQuiet_load_arr (by rfl) 26 (.tmp 58) rfl b (o + i * 7) rfl A _ (fun w' hw' => by (obtain ⟨z, rfl⟩ := hw'; exact rangeAt_up GA.out (hz.out z))) rfl rfl (by rw [As.out]; rfl) ?_) | ((with_reducible show wpQuiet _ _ _ _ (Oper.mk (some 65) _ _ _ _ _ :: _) _); with_reducible refine wpQuiet_step (fun K hK => ?_); go_simp; apply Exists.intro; refine ⟨fun _ => ?_, hK _ ?_⟩; (go_at_call 11; with_reducible exact Calls.quiet_up (SM.out _)); clear hK K) | (with_reducible refine wpQuiet_step (fun K hK => ?_); go_simp; with_reducible refine hK _ ?_; clear hK K))
      refine wpQuiet_nil ?_
      refine HRR'.out _ ?_
      rintro w4 ⟨z, hz4⟩
      have U4 : Hid (Up W0 w4) := by show Up _ _; rw [hz4]; exact Up.trans HU.out (hz.out z)
      clear hz4 HRR' hz SM k6
      cases bb
      case false =>
        have hv : V = false := by rw [HV2.out, HDA.out]; rfl
        subst hv
        go_wp2_with fail
        go_ret
        exact ⟨rfl, U4.out⟩
      have HA2 : Hid (xs.all (fun x => smallB x.a.o x.salt.length) = (xs.drop (i + 1)).all (fun x => smallB x.a.o x.salt.length)) := by show _ = _; rw [HDA.out, Bool.true_and]
      clear HDA
      go_wp2_with fail
      exact ⟨⟨i + 1, by omega, by go_num, HA2, U4⟩, by simp [intOf]; omega⟩

set_option maxHeartbeats 8000000 in
theorem few_hi_mid (p q : Option Addr) (n c m d : Nat) (sls : List SlA) (xs : List OpA) (w : World) (hn : n = sls.length) (hm : m = xs.length) (hc : n ≤ c) (hcm : c ≤ maxLen) (hd : m ≤ d) (hdm : d ≤ maxLen)
    (hr : RowAt w p 2 slCells sls) (hx : RowAt w q 7 opCells xs) (h1 : 64 < n ∧ n ≤ 100) (h2 : 20 < m ∧ m ≤ 64) :
    Calls Tryd.prog 18 #[.slice p n c, .slice q m d] w fun e w' => e = .returned (.bool (fewB sls xs)) ∧ Up w w' := by
  have hv : fewB sls xs = false := by
    have : badN sls.length xs.length = true := by
      rw [← hn, ← hm]; unfold badN
      simp only [Bool.or_eq_true, Bool.and_eq_true, decide_eq_true_eq]; omega
    unfold fewB; rw [this]; rfl
  rw [hv]
  have n1 : decide ((20 : Int) < (n : Int)) = true := by simp; omega
  have n2 : decide ((n : Int) ≤ 64) = false := by simp; omega
  have n3 : decide ((100 : Int) < (n : Int)) = false := by simp; omega
  have m1 : decide ((20 : Int) < (m : Int)) = true := by simp; omega
  have m2 : decide ((m : Int) ≤ 64) = true := by simp; omega
  have m3 : decide ((100 : Int) < (m : Int)) = false := by simp; omega
  clear hv hn hm hr hx h1 h2
  go_enter Tryd.func18, Tryd.ntmps18
  go_wp2_with fail
  go_ret
  exact ⟨rfl, Up.refl _⟩

set_option maxHeartbeats 8000000 in
theorem few_hi_hi (p q : Option Addr) (n c m d : Nat) (sls : List SlA) (xs : List OpA) (w : World) (hn : n = sls.length) (hm : m = xs.length) (hc : n ≤ c) (hcm : c ≤ maxLen) (hd : m ≤ d) (hdm : d ≤ maxLen)
    (hr : RowAt w p 2 slCells sls) (hx : RowAt w q 7 opCells xs) (h1 : 64 < n ∧ n ≤ 100) (h2 : 64 < m ∧ m ≤ 100) :
    Calls Tryd.prog 18 #[.slice p n c, .slice q m d] w fun e w' => e = .returned (.bool (fewB sls xs)) ∧ Up w w' := by
  obtain ⟨V, hV⟩ : ∃ V, V = fewB sls xs := ⟨_, rfl⟩
  have hv : V = (sls.all (fun s => decide (s.dig.length ≤ 100)) && xs.all (fun x => smallB x.a.o x.salt.length)) := by
    have : badN sls.length xs.length = false := by
      rw [← hn, ← hm]; unfold badN
      simp only [Bool.or_eq_false_iff, Bool.and_eq_false_iff, decide_eq_false_iff_not]; omega
    rw [hV]; unfold fewB; rw [this]; rfl
  rw [← hV]
  have n1 : decide ((20 : Int) < (n : Int)) = true := by simp; omega
  have n2 : decide ((n : Int) ≤ 64) = false := by simp; omega
  have n3 : decide ((100 : Int) < (n : Int)) = false := by simp; omega
  have m1 : decide ((20 : Int) < (m : Int)) = true := by simp; omega
  have m2 : decide ((m : Int) ≤ 64) = false := by simp; omega
  have m3 : decide ((100 : Int) < (m : Int)) = false := by simp; omega
  have HV := Lib.hid hv
  have HN := Lib.hid hn
  have HM := Lib.hid hm
  have R1 := Lib.hid hr
  have R2 := Lib.hid hx
  clear hv hV hn hm hr hx
  go_enter Tryd.func18, Tryd.ntmps18
  go_wp2_with fail
  go_loopw [5] (fun v5 wq => ∃ i : Nat, i ≤ n ∧ v5 = .int .i64 i ∧ Hid (sls.all (fun s => decide (s.dig.length ≤ 100)) = (sls.drop i).all (fun s => decide (s.dig.length ≤ 100))) ∧ wq = w) (fun v5 _ => n - (intOf v5).toNat)
  case atStart => exact ⟨0, by omega, rfl, rfl, rfl⟩
  case round =>
    obtain ⟨i, hi, rfl, HA, rfl⟩ := hrel
    by_cases hlt : i < n
    case pos =>
      have hil : i < sls.length := by rw [← HN.out]; exact hlt
      obtain ⟨b, o, rfl, hpr⟩ := R1.out (by rintro rfl; simp at hil)
      have g : wr.cell? ⟨b, o + i * 2 + 1, none⟩ = some (.slice sls[i].p sls[i].dig.length sls[i].c) := by have := hpr i hil 1 _ rfl; simpa using this
      have hda := HA.out
      rw [List.drop_eq_getElem_cons hil, List.all_cons] at hda
      obtain ⟨dn, hdn⟩ : ∃ dn, dn = sls[i].dig.length := ⟨_, rfl⟩
      rw [← hdn] at g hda
      obtain ⟨sp, hsp⟩ : ∃ sp, sp = sls[i].p := ⟨_, rfl⟩
      obtain ⟨sc, hsc⟩ : ∃ sc, sc = sls[i].c := ⟨_, rfl⟩
      rw [← hsp, ← hsc] at g
      have HDA := Lib.hid hda
      clear hpr hda hdn hsp hsc hil HA
      by_cases hl : dn ≤ 100
      case neg =>
        have d5 : decide ((100 : Int) < (dn : Int)) = true := by simp; omega
        have hv : V = false := by rw [HV.out, HDA.out, decide_eq_false hl]; rfl
        subst hv
        clear HV HDA hl
        go_wp2_with fail
        go_ret
        exact ⟨rfl, Up.refl _⟩
      have d5 : decide ((100 : Int) < (dn : Int)) = false := by simp; omega
      have HA2 : Hid (sls.all (fun s => decide (s.dig.length ≤ 100)) = (sls.drop (i + 1)).all (fun s => decide (s.dig.length ≤ 100))) := by show _ = _; rw [HDA.out, decide_eq_true hl, Bool.true_and]
      clear HDA hl
      go_wp2_with fail
      exact ⟨⟨i + 1, by omega, by go_num, HA2, trivial⟩, by simp [intOf]; omega⟩
    have HV2 : Hid (V = xs.all (fun x => smallB x.a.o x.salt.length)) := by
      show V = _; rw [HV.out, HA.out, List.drop_of_length_le (by rw [← HN.out]; omega)]; rfl
    obtain ⟨W0, hW0⟩ : ∃ W0, W0 = wr := ⟨_, rfl⟩
    subst hW0
    clear HV HA
    go_wp2_with fail
    clear hlt hi
    go_loopw [6] (fun v6 wq => ∃ i : Nat, i ≤ m ∧ v6 = .int .i64 i ∧ Hid (xs.all (fun x => smallB x.a.o x.salt.length) = (xs.drop i).all (fun x => smallB x.a.o x.salt.length)) ∧ Hid (Up W0 wq)) (fun v6 _ => m - (intOf v6).toNat)
    case atStart => exact ⟨0, by omega, rfl, rfl, Up.refl _⟩
    case round =>
      obtain ⟨i, hi, rfl, HA, HU⟩ := hrel
      by_cases hlt : i < m
      case neg =>
        have hv : V = true := by rw [HV2.out, HA.out, List.drop_of_length_le (by rw [← HM.out]; omega)]; rfl
        subst hv
        go_wp2_with fail
        go_ret
        exact ⟨rfl, HU.out⟩
      have hil : i < xs.length := by rw [← HM.out]; exact hlt
      obtain ⟨b, o, rfl, hpr⟩ := R2.out (by rintro rfl; simp at hil)
      have g := rangeAt_up (hpr i hil) HU.out
      have hda := HA.out
      rw [List.drop_eq_getElem_cons hil, List.all_cons] at hda
      obtain ⟨x, hxx⟩ : ∃ x, x = xs[i] := ⟨_, rfl⟩
      rw [← hxx] at g hda
      have g6 : wr.cell? ⟨b, o + i * 7 + 6, none⟩ = some (.slice x.sp x.salt.length x.sc) := by have := g 6 _ rfl; simpa using this
      have gA : wr.rangeAt b (o + i * 7) (ofCells x.a).toArray.toList := fun j u hu => by
        have := g j u (by simp only [opCells]; rw [List.getElem?_append_left (by have := (List.getElem?_eq_some_iff.1 hu).1; simpa using this)]; simpa using hu)
        exact this
      have SM := Lib.hid fun W => rsmall_calls x.a x.sp x.salt.length x.sc W
      have As : Hid ((ofCells x.a).toArray.size = 6) := rfl
      obtain ⟨A, hA⟩ : ∃ A, A = (ofCells x.a).toArray := ⟨_, rfl⟩
      obtain ⟨sn, hsn⟩ : ∃ sn, sn = x.salt.length := ⟨_, rfl⟩
      obtain ⟨bb, hbb⟩ : ∃ bb, bb = smallB x.a.o x.salt.length := ⟨_, rfl⟩
      rw [← hbb] at SM hda
      rw [← hA, ← hsn] at SM
      rw [← hsn] at g6
      rw [← hA] at gA As
      have GA := Lib.hid gA
      have HDA := Lib.hid hda
      have k6 : ∀ z : UpW wr.drew, z.w.cell? ⟨b, o + i * 7 + 6, none⟩ = some (.slice x.sp sn x.sc) := fun z => cell_up g6 (Up.trans (Up.refl wr).drew z.up)
      clear hpr hda hil HA g gA g6 hA hsn hbb hxx
      go_wp2_with fail
      haveI := UpW.some_ wr.drew
      have hz := Lib.hid fun (z : UpW wr.drew) => (Up.trans (Up.refl wr).drew z.up : Up wr z.w)
      refine wp_region_up_k (by kernel_rfl) (by kernel_rfl) ?_
      intro R HRR
      have HRR' := Lib.hid HRR
      clear HRR
      repeat (first | ((with_reducible show wpQuiet _ _ _ _ (Oper.mk _ (Op.load _ (Operand.tmp 58)) _ _ _ _ :: _) _); refine wpQuiet_load_arr (by rfl) 26 (.tmp 58) rfl b (o + i * 7) rfl A _ (fun w' hw' => by (obtain ⟨z, rfl⟩ := hw'; exact rangeAt_up GA.out (hz.out z))) rfl rfl (by rw [As.out]; rfl) ?_) | ((with_reducible show wpQuiet _ _ _ _ (Oper.mk (some 65) _ _ _ _ _ :: _) _); with_reducible refine wpQuiet_step (fun K hK => ?_); go_simp; apply Exists.intro; refine ⟨fun _ => ?_, hK _ ?_⟩; (go_at_call 11; with_reducible exact Calls.quiet_up (SM.out _)); clear hK K) | (with_reducible refine wpQuiet_step (fun K hK => ?_); go_simp; with_reducible refine hK _ ?_; clear hK K))
      refine wpQuiet_nil ?_
      refine HRR'.out _ ?_
      rintro w4 ⟨z, hz4⟩
      have U4 : Hid (Up W0 w4) := by show Up _ _; rw [hz4]; exact Up.trans HU.out (hz.out z)
      clear hz4 HRR' hz SM k6
      cases bb
      case false =>
        have hv : V = false := by rw [HV2.out, HDA.out]; rfl
        subst hv
        go_wp2_with fail
        go_ret
        exact ⟨rfl, U4.out⟩
      have HA2 : Hid (xs.all (fun x => smallB x.a.o x.salt.length) = (xs.drop (i + 1)).all (fun x => smallB x.a.o x.salt.length)) := by show _ = _; rw [HDA.out, Bool.true_and]
      clear HDA
      go_wp2_with fail
      exact ⟨⟨i + 1, by omega, by go_num, HA2, U4⟩, by simp [intOf]; omega⟩

set_option maxHeartbeats 8000000 in
theorem few_hi_big (p q : Option Addr) (n c m d : Nat) (sls : List SlA) (xs : List OpA) (w : World) (hn : n = sls.length) (hm : m = xs.length) (hc : n ≤ c) (hcm : c ≤ maxLen) (hd : m ≤ d) (hdm : d ≤ maxLen)
    (hr : RowAt w p 2 slCells sls) (hx : RowAt w q 7 opCells xs) (h1 : 64 < n ∧ n ≤ 100) (h2 : 100 < m) :
    Calls Tryd.prog 18 #[.slice p n c, .slice q m d] w fun e w' => e = .returned (.bool (fewB sls xs)) ∧ Up w w' := by
  have hv : fewB sls xs = false := by
    have : badN sls.length xs.length = true := by
      rw [← hn, ← hm]; unfold badN
      simp only [Bool.or_eq_true, Bool.and_eq_true, decide_eq_true_eq]; omega
    unfold fewB; rw [this]; rfl
  rw [hv]
  have n1 : decide ((20 : Int) < (n : Int)) = true := by simp; omega
  have n2 : decide ((n : Int) ≤ 64) = false := by simp; omega
  have n3 : decide ((100 : Int) < (n : Int)) = false := by simp; omega
  have m1 : decide ((20 : Int) < (m : Int)) = true := by simp; omega
  have m2 : decide ((m : Int) ≤ 64) = false := by simp; omega
  have m3 : decide ((100 : Int) < (m : Int)) = true := by simp; omega
  clear hv hn hm hr hx h1 h2
  go_enter Tryd.func18, Tryd.ntmps18
  go_wp2_with fail
  go_ret
  exact ⟨rfl, Up.refl _⟩

set_option maxHeartbeats 8000000 in
theorem few_big_lo (p q : Option Addr) (n c m d : Nat) (sls : List SlA) (xs : List OpA) (w : World) (hn : n = sls.length) (hm : m = xs.length) (hc : n ≤ c) (hcm : c ≤ maxLen) (hd : m ≤ d) (hdm : d ≤ maxLen)
    (hr : RowAt w p 2 slCells sls) (hx : RowAt w q 7 opCells xs) (h1 : 100 < n) (h2 : m ≤ 20) :
    Calls Tryd.prog 18 #[.slice p n c, .slice q m d] w fun e w' => e = .returned (.bool (fewB sls xs)) ∧ Up w w' := by
  have hv : fewB sls xs = false := by
    have : badN sls.length xs.length = true := by
      rw [← hn, ← hm]; unfold badN
      simp only [Bool.or_eq_true, Bool.and_eq_true, decide_eq_true_eq]; omega
    unfold fewB; rw [this]; rfl
  rw [hv]
  have n1 : decide ((20 : Int) < (n : Int)) = true := by simp; omega
  have n2 : decide ((n : Int) ≤ 64) = false := by simp; omega
  have n3 : decide ((100 : Int) < (n : Int)) = true := by simp; omega
  have m1 : decide ((20 : Int) < (m : Int)) = false := by simp; omega
  have m2 : decide ((m : Int) ≤ 64) = true := by simp; omega
  have m3 : decide ((100 : Int) < (m : Int)) = false := by simp; omega
  clear hv hn hm hr hx h1 h2
  go_enter Tryd.func18, Tryd.ntmps18
  go_wp2_with fail
  go_ret
  exact ⟨rfl, Up.refl _⟩

set_option maxHeartbeats 8000000 in
theorem few_big_mid (p q : Option Addr) (n c m d : Nat) (sls : List SlA) (xs : List OpA) (w : World) (hn : n = sls.length) (hm : m = xs.length) (hc : n ≤ c) (hcm : c ≤ maxLen) (hd : m ≤ d) (hdm : d ≤ maxLen)
    (hr : RowAt w p 2 slCells sls) (hx : RowAt w q 7 opCells xs) (h1 : 100 < n) (h2 : 20 < m ∧ m ≤ 64) :
    Calls Tryd.prog 18 #[.slice p n c, .slice q m d] w fun e w' => e = .returned (.bool (fewB sls xs)) ∧ Up w w' := by
  have hv : fewB sls xs = false := by
    have : badN sls.length xs.length = true := by
      rw [← hn, ← hm]; unfold badN
      simp only [Bool.or_eq_true, Bool.and_eq_true, decide_eq_true_eq]; omega
    unfold fewB; rw [this]; rfl
  rw [hv]
  have n1 : decide ((20 : Int) < (n : Int)) = true := by simp; omega
  have n2 : decide ((n : Int) ≤ 64) = false := by simp; omega
  have n3 : decide ((100 : Int) < (n : Int)) = true := by simp; omega
  have m1 : decide ((20 : Int) < (m : Int)) = true := by simp; omega
  have m2 : decide ((m : Int) ≤ 64) = true := by simp; omega
  have m3 : decide ((100 : Int) < (m : Int)) = false := by simp; omega
  clear hv hn hm hr hx h1 h2
  go_enter Tryd.func18, Tryd.ntmps18
  go_wp2_with fail
  go_ret
  exact ⟨rfl, Up.refl _⟩

set_option maxHeartbeats 8000000 in
theorem few_big_hi (p q : Option Addr) (n c m d : Nat) (sls : List SlA) (xs : List OpA) (w : World) (hn : n = sls.length) (hm : m = xs.length) (hc : n ≤ c) (hcm : c ≤ maxLen) (hd : m ≤ d) (hdm : d ≤ maxLen)
    (hr : RowAt w p 2 slCells sls) (hx : RowAt w q 7 opCells xs) (h1 : 100 < n) (h2 : 64 < m ∧ m ≤ 100) :
    Calls Tryd.prog 18 #[.slice p n c, .slice q m d] w fun e w' => e = .returned (.bool (fewB sls xs)) ∧ Up w w' := by
  have hv : fewB sls xs = false := by
    have : badN sls.length xs.length = true := by
      rw [← hn, ← hm]; unfold badN
      simp only [Bool.or_eq_true, Bool.and_eq_true, decide_eq_true_eq]; omega
    unfold fewB; rw [this]; rfl
  rw [hv]
  have n1 : decide ((20 : Int) < (n : Int)) = true := by simp; omega
  have n2 : decide ((n : Int) ≤ 64) = false := by simp; omega
  have n3 : decide ((100 : Int) < (n : Int)) = true := by simp; omega
  have m1 : decide ((20 : Int) < (m : Int)) = true := by simp; omega
  have m2 : decide ((m : Int) ≤ 64) = false := by simp; omega
  have m3 : decide ((100 : Int) < (m : Int)) = false := by simp; omega
  clear hv hn hm hr hx h1 h2
  go_enter Tryd.func18, Tryd.ntmps18
  go_wp2_with fail
  go_ret
  exact ⟨rfl, Up.refl _⟩

set_option maxHeartbeats 8000000 in
theorem few_big_big (p q : Option Addr) (n c m d : Nat) (sls : List SlA) (xs : List OpA) (w : World) (hn : n = sls.length) (hm : m = xs.length) (hc : n ≤ c) (hcm : c ≤ maxLen) (hd : m ≤ d) (hdm : d ≤ maxLen)
    (hr : RowAt w p 2 slCells sls) (hx : RowAt w q 7 opCells xs) (h1 : 100 < n) (h2 : 100 < m) :
    Calls Tryd.prog 18 #[.slice p n c, .slice q m d] w fun e w' => e = .returned (.bool (fewB sls xs)) ∧ Up w w' := by
  have hv : fewB sls xs = false := by
    have : badN sls.length xs.length = true := by
      rw [← hn, ← hm]; unfold badN
      simp only [Bool.or_eq_true, Bool.and_eq_true, decide_eq_true_eq]; omega
    unfold fewB; rw [this]; rfl
  rw [hv]
  have n1 : decide ((20 : Int) < (n : Int)) = true := by simp; omega
  have n2 : decide ((n : Int) ≤ 64) = false := by simp; omega
  have n3 : decide ((100 : Int) < (n : Int)) = true := by simp; omega
  have m1 : decide ((20 : Int) < (m : Int)) = true := by simp; omega
  have m2 : decide ((m : Int) ≤ 64) = false := by simp; omega
  have m3 : decide ((100 : Int) < (m : Int)) = true := by simp; omega
  clear hv hn hm hr hx h1 h2
  go_enter Tryd.func18, Tryd.ntmps18
  go_wp2_with fail
  go_ret
  exact ⟨rfl, Up.refl _⟩

set_option maxHeartbeats 8000000 in
theorem rfew_calls (p q : Option Addr) (n c m d : Nat) (sls : List SlA) (xs : List OpA) (w : World) (hn : n = sls.length) (hm : m = xs.length) (hc : n ≤ c) (hcm : c ≤ maxLen) (hd : m ≤ d) (hdm : d ≤ maxLen)
    (hr : RowAt w p 2 slCells sls) (hx : RowAt w q 7 opCells xs) :
    Calls Tryd.prog 18 #[.slice p n c, .slice q m d] w fun e w' => e = .returned (.bool (fewB sls xs)) ∧ Up w w' := by
  by_cases a1 : n ≤ 20
  · by_cases b1 : m ≤ 20
    · exact few_lo_lo p q n c m d sls xs w hn hm hc hcm hd hdm hr hx a1 b1
    by_cases b2 : m ≤ 64
    · exact few_lo_mid p q n c m d sls xs w hn hm hc hcm hd hdm hr hx a1 ⟨by omega, b2⟩
    by_cases b3 : m ≤ 100
    · exact few_lo_hi p q n c m d sls xs w hn hm hc hcm hd hdm hr hx a1 ⟨by omega, b3⟩
    exact few_lo_big p q n c m d sls xs w hn hm hc hcm hd hdm hr hx a1 (by omega)
  by_cases a2 : n ≤ 64
  · by_cases b1 : m ≤ 20
    · exact few_mid_lo p q n c m d sls xs w hn hm hc hcm hd hdm hr hx ⟨by omega, a2⟩ b1
    by_cases b2 : m ≤ 64
    · exact few_mid_mid p q n c m d sls xs w hn hm hc hcm hd hdm hr hx ⟨by omega, a2⟩ ⟨by omega, b2⟩
    by_cases b3 : m ≤ 100
    · exact few_mid_hi p q n c m d sls xs w hn hm hc hcm hd hdm hr hx ⟨by omega, a2⟩ ⟨by omega, b3⟩
    exact few_mid_big p q n c m d sls xs w hn hm hc hcm hd hdm hr hx ⟨by omega, a2⟩ (by omega)
  by_cases a3 : n ≤ 100
  · by_cases b1 : m ≤ 20
    · exact few_hi_lo p q n c m d sls xs w hn hm hc hcm hd hdm hr hx ⟨by omega, a3⟩ b1
    by_cases b2 : m ≤ 64
    · exact few_hi_mid p q n c m d sls xs w hn hm hc hcm hd hdm hr hx ⟨by omega, a3⟩ ⟨by omega, b2⟩
    by_cases b3 : m ≤ 100
    · exact few_hi_hi p q n c m d sls xs w hn hm hc hcm hd hdm hr hx ⟨by omega, a3⟩ ⟨by omega, b3⟩
    exact few_hi_big p q n c m d sls xs w hn hm hc hcm hd hdm hr hx ⟨by omega, a3⟩ (by omega)
  by_cases b1 : m ≤ 20
  · exact few_big_lo p q n c m d sls xs w hn hm hc hcm hd hdm hr hx (by omega) b1
  by_cases b2 : m ≤ 64
  · exact few_big_mid p q n c m d sls xs w hn hm hc hcm hd hdm hr hx (by omega) ⟨by omega, b2⟩
  by_cases b3 : m ≤ 100
  · exact few_big_hi p q n c m d sls xs w hn hm hc hcm hd hdm hr hx (by omega) ⟨by omega, b3⟩
  exact few_big_big p q n c m d sls xs w hn hm hc hcm hd hdm hr hx (by omega) (by omega)

end Go.Proofs.YtmifpokafaiebaaDoor

namespace Go.Proofs.YtmifpokafaiebaaDoor
open Go Go.RowKit
set_option linter.unusedVariables false
set_option maxRecDepth 100000

theorem opKey_ok {x : OpA} {k : Int × List UInt8} (h : opKey x = some k) : msgE x.a.o x.salt = 0 ∧ k = (x.a.o.farm, cmtB x.a.o x.salt) := by
  unfold opKey at h
  by_cases hm : msgE x.a.o x.salt = 0
  · rw [if_pos hm] at h; injection h with h; exact ⟨hm, h.symm⟩
  · rw [if_neg hm] at h; cases h
theorem revO_from {sls : List SlA} {xs : List OpA} {o : Of} (h : o ∈ revO sls xs) : ∃ x ∈ xs, x.a.o = o ∧ ∃ k, opKey x = some k ∧ k ∈ sls.map slKey := by
  unfold revO at h
  by_cases hb : revE sls xs = 0
  · rw [if_pos hb] at h
    obtain ⟨x, hx, rfl⟩ := List.mem_map.1 h
    have h1 := (outs_mem opNo [] _ x hx).1
    obtain ⟨i, hi, he⟩ := List.mem_iff_getElem.1 h1
    have h2 : (revSt sls xs)[i]? = some (some x) := by rw [List.getElem?_eq_getElem hi, he]
    obtain ⟨h3, k, h4, h5⟩ := stK_from _ _ _ _ _ h2
    exact ⟨x, h3, rfl, k, h4, List.mem_of_getElem? h5⟩
  · rw [if_neg hb] at h; cases h
theorem revO_ok {sls : List SlA} {xs : List OpA} {o : Of} (h : o ∈ revO sls xs) : OfOk o := by
  obtain ⟨x, hx, rfl, k, hk, -⟩ := revO_from h
  exact (msgE_ok (opKey_ok hk).1).1
theorem revSt_len (sls : List SlA) (xs : List OpA) : (revSt sls xs).length = sls.length := by rw [revSt, stK_length, List.length_map]
theorem revO_len (sls : List SlA) (xs : List OpA) : (revO sls xs).length ≤ sls.length := by
  unfold revO
  by_cases hb : revE sls xs = 0
  · rw [if_pos hb, List.length_map]
    have h1 := outs_length opNo [] (revSt sls xs)
    have h2 := sil_length 0 (revSt sls xs)
    rw [revSt_len] at h2; omega
  · rw [if_neg hb]; exact Nat.zero_le _
theorem revS_len (sls : List SlA) (xs : List OpA) : (revS sls xs).length ≤ sls.length := by
  unfold revS
  by_cases hb : revE sls xs = 0
  · rw [if_pos hb, List.length_map]
    have h2 := sil_length 0 (revSt sls xs)
    rw [revSt_len] at h2; omega
  · rw [if_neg hb]; exact Nat.zero_le _
theorem few_len {sls : List SlA} {xs : List OpA} (h : fewB sls xs = true) : sls.length ≤ 100 ∧ xs.length ≤ 100 := by
  unfold fewB badN at h
  simp only [Bool.and_eq_true, Bool.not_eq_true', Bool.or_eq_false_iff, decide_eq_false_iff_not] at h
  omega
theorem few_small {sls : List SlA} {xs : List OpA} (h : fewB sls xs = true) : ∀ x ∈ xs, x.a.o.lots.length ≤ 20 := fun x hx => by
  unfold fewB at h
  simp only [Bool.and_eq_true, List.all_eq_true] at h
  have := h.2 x hx
  unfold smallB at this
  simp only [Bool.and_eq_true, decide_eq_true_eq] at this
  omega
theorem RevR.lots {w w' : World} {sls : List SlA} {xs : List OpA} {N : List Int} {n k : Nat} {p q : Option Addr} {c d : Nat} {A : List OfA} (h : RevR w w' (revO sls xs) N n k p q c d A) : ∀ a ∈ A, a.o.lots.length ≤ 100000 := fun a ha => by
  have := (revO_ok (sls := sls) (xs := xs) (by rw [← h.eq]; exact List.mem_map_of_mem ha)).len
  omega

end Go.Proofs.YtmifpokafaiebaaDoor
